-- written by the session's program xp.py over the kit's print program, and by hand; texts joined by pack.py
import Derived.Test.YtpfhepbkgbeapaaKFnExactHexBridges3
namespace Go.Proofs.Ytpfhepbkgbeapaa.F
open Go.RowKit Go.Proofs.YtpfhepbkgbeapaaW.PrintWords Go.Proofs.YtpfhepbkgbeapaaW.PrintLast Go.Proofs.YtpfhepbkgbeapaaW.PrintMore
attribute [local go_sem] max2_int min2_int max_two min_two max_three min_three max_four min_four   -- for this text's walks alone
set_option linter.unusedVariables false
set_option linter.unusedSimpArgs false

/-! ### laws_FnExactHexBridges: function 3 -/
mutual
def laws_FnExactHexBridges.j0 : Nat → Int → List (List Int) → Int → List (List Int) → Int → Bool → Int → List Int → Int → List Int → Option (Bool)
 | 0, _, _, _, _, _, _, _, _, _, _ => none
 | k + 1, x1, x6, x7, x9, x10, x44, x197000, x197001, x211000, x211001 => if x44 = true then (some false) else ((laws_toHex.f k x197000 x197001).bind fun bt216 => ((laws_eqHex.f k x211000 x211001 bt216.1 bt216.2).bind fun t220 => (if t220 = true then ((laws_markHex.f k x211000 x211001 1).bind fun bt221 => (if bt221.1 < 0 then (laws_FnExactHexBridges.j1 k x1 x6 x7 x9 true x197000 x197001) else ((laws_eqInt64SS.f k x9 x6).bind fun t223 => (if t223 = true then (laws_FnExactHexBridges.j1 k x1 x6 x7 x9 (x10 != x7) x197000 x197001) else (laws_FnExactHexBridges.j1 k x1 x6 x7 x9 true x197000 x197001))))) else (some false))))
def laws_FnExactHexBridges.j1 : Nat → Int → List (List Int) → Int → List (List Int) → Bool → Int → List Int → Option (Bool)
 | 0, _, _, _, _, _, _, _ => none
 | k + 1, x1, x6, x7, x9, x65, x197000, x197001 => if x65 = true then (some false) else ((laws_markInt64SS.f k x9 1).bind fun bt224 => ((laws_heldInt64SS.f k bt224.2 1).bind fun t226 => (if t226 < 0 then (some false) else (if t226 = bt224.1 then ((laws_toHex.f k x197000 x197001).bind fun bt227 => ((impl_HexBridges.f k bt227.1 bt227.2 x1).bind fun bt231 => ((laws_eqInt64SS.f k bt231.1 x6).bind fun t235 => (if t235 = true then (laws_FnExactHexBridges.j2 k bt224.2 bt224.1 (bt231.2 != x7)) else (laws_FnExactHexBridges.j2 k bt224.2 bt224.1 true))))) else (some false)))))
def laws_FnExactHexBridges.j2 : Nat → List (List Int) → Int → Bool → Option (Bool)
 | 0, _, _, _ => none
 | k + 1, x9, x12, x92 => if x92 = true then (some false) else ((laws_heldInt64SS.f k x9 1).bind fun t236 => (if t236 < 0 then (some false) else (if t236 = x12 then (some true) else (some false))))
end
def laws_FnExactHexBridges.f (k : Nat) (a0_0 : Int) (l0_1 : List Int) (a1 : Int) : Option (Bool) := (laws_szHex.f a0_0 l0_1 1048576).bind fun t197 => (if t197 < 0 then (some true) else ((laws_toHex.f k a0_0 l0_1).bind fun bt198 => ((spec_HexBridges.f k bt198.1 bt198.2 a1).bind fun bt202 => ((laws_toHex.f k a0_0 l0_1).bind fun bt206 => ((impl_HexBridges.f k bt206.1 bt206.2 a1).bind fun bt211 => ((laws_eqInt64SS.f k bt211.1 bt202.1).bind fun t215 => (if t215 = true then (laws_FnExactHexBridges.j0 k a1 bt202.1 bt202.2 bt211.1 bt211.2 (bt211.2 != bt202.2) a0_0 l0_1 bt206.1 bt206.2) else (laws_FnExactHexBridges.j0 k a1 bt202.1 bt202.2 bt211.1 bt211.2 true a0_0 l0_1 bt206.1 bt206.2))))))))
theorem laws_FnExactHexBridges.mono_l : ∀ k, (∀ y0 y1 y2 y3 y4 y5 y6 y7 y8 y9, LeO (laws_FnExactHexBridges.j0 k y0 y1 y2 y3 y4 y5 y6 y7 y8 y9) (laws_FnExactHexBridges.j0 (k + 1) y0 y1 y2 y3 y4 y5 y6 y7 y8 y9)) ∧ (∀ y0 y1 y2 y3 y4 y5 y6, LeO (laws_FnExactHexBridges.j1 k y0 y1 y2 y3 y4 y5 y6) (laws_FnExactHexBridges.j1 (k + 1) y0 y1 y2 y3 y4 y5 y6)) ∧ (∀ y0 y1 y2, LeO (laws_FnExactHexBridges.j2 k y0 y1 y2) (laws_FnExactHexBridges.j2 (k + 1) y0 y1 y2))
 | 0 => ⟨fun _ _ _ _ _ _ _ _ _ _ r h => by simp [laws_FnExactHexBridges.j0] at h, fun _ _ _ _ _ _ _ r h => by simp [laws_FnExactHexBridges.j1] at h, fun _ _ _ r h => by simp [laws_FnExactHexBridges.j2] at h⟩
 | k + 1 => by
  obtain ⟨ih0, ih1, ih2⟩ := laws_FnExactHexBridges.mono_l k
  refine ⟨?_, ?_, ?_⟩
  ·intro y0 y1 y2 y3 y4 y5 y6 y7 y8 y9
   unfold laws_FnExactHexBridges.j0
   repeat' first
   | (with_reducible exact ih0 _ _ _ _ _ _ _ _ _ _)
   | (with_reducible exact ih1 _ _ _ _ _ _ _)
   | (with_reducible exact ih2 _ _ _)
   | (with_reducible exact impl_HexBridges.mono _ _ _ _)
   | (with_reducible exact laws_eqHex.mono _ _ _ _ _)
   | (with_reducible exact laws_eqInt64SS.mono _ _ _)
   | (with_reducible exact laws_heldInt64SS.mono _ _ _)
   | (with_reducible exact laws_markHex.mono _ _ _ _)
   | (with_reducible exact laws_markInt64SS.mono _ _ _)
   | (with_reducible exact laws_toHex.mono _ _ _)
   | (with_reducible exact spec_HexBridges.mono _ _ _ _)
   | (with_reducible exact LeO.refl _)
   | (with_reducible exact LeO.none _)
   | (with_reducible refine LeO.ite ?_ ?_)
   | (with_reducible refine LeO.bind ?_ (fun _ => ?_))
   | exact ih0 _ _ _ _ _ _ _ _ _ _
   | exact ih1 _ _ _ _ _ _ _
   | exact ih2 _ _ _
   | exact impl_HexBridges.mono _ _ _ _
   | exact laws_eqHex.mono _ _ _ _ _
   | exact laws_eqInt64SS.mono _ _ _
   | exact laws_heldInt64SS.mono _ _ _
   | exact laws_markHex.mono _ _ _ _
   | exact laws_markInt64SS.mono _ _ _
   | exact laws_toHex.mono _ _ _
   | exact spec_HexBridges.mono _ _ _ _
   | exact LeO.none _
   | refine LeO.ite ?_ ?_
   | refine LeO.bind ?_ (fun _ => ?_)
  ·intro y0 y1 y2 y3 y4 y5 y6
   unfold laws_FnExactHexBridges.j1
   repeat' first
   | (with_reducible exact ih0 _ _ _ _ _ _ _ _ _ _)
   | (with_reducible exact ih1 _ _ _ _ _ _ _)
   | (with_reducible exact ih2 _ _ _)
   | (with_reducible exact impl_HexBridges.mono _ _ _ _)
   | (with_reducible exact laws_eqHex.mono _ _ _ _ _)
   | (with_reducible exact laws_eqInt64SS.mono _ _ _)
   | (with_reducible exact laws_heldInt64SS.mono _ _ _)
   | (with_reducible exact laws_markHex.mono _ _ _ _)
   | (with_reducible exact laws_markInt64SS.mono _ _ _)
   | (with_reducible exact laws_toHex.mono _ _ _)
   | (with_reducible exact spec_HexBridges.mono _ _ _ _)
   | (with_reducible exact LeO.refl _)
   | (with_reducible exact LeO.none _)
   | (with_reducible refine LeO.ite ?_ ?_)
   | (with_reducible refine LeO.bind ?_ (fun _ => ?_))
   | exact ih0 _ _ _ _ _ _ _ _ _ _
   | exact ih1 _ _ _ _ _ _ _
   | exact ih2 _ _ _
   | exact impl_HexBridges.mono _ _ _ _
   | exact laws_eqHex.mono _ _ _ _ _
   | exact laws_eqInt64SS.mono _ _ _
   | exact laws_heldInt64SS.mono _ _ _
   | exact laws_markHex.mono _ _ _ _
   | exact laws_markInt64SS.mono _ _ _
   | exact laws_toHex.mono _ _ _
   | exact spec_HexBridges.mono _ _ _ _
   | exact LeO.none _
   | refine LeO.ite ?_ ?_
   | refine LeO.bind ?_ (fun _ => ?_)
  ·intro y0 y1 y2
   unfold laws_FnExactHexBridges.j2
   repeat' first
   | (with_reducible exact ih0 _ _ _ _ _ _ _ _ _ _)
   | (with_reducible exact ih1 _ _ _ _ _ _ _)
   | (with_reducible exact ih2 _ _ _)
   | (with_reducible exact impl_HexBridges.mono _ _ _ _)
   | (with_reducible exact laws_eqHex.mono _ _ _ _ _)
   | (with_reducible exact laws_eqInt64SS.mono _ _ _)
   | (with_reducible exact laws_heldInt64SS.mono _ _ _)
   | (with_reducible exact laws_markHex.mono _ _ _ _)
   | (with_reducible exact laws_markInt64SS.mono _ _ _)
   | (with_reducible exact laws_toHex.mono _ _ _)
   | (with_reducible exact spec_HexBridges.mono _ _ _ _)
   | (with_reducible exact LeO.refl _)
   | (with_reducible exact LeO.none _)
   | (with_reducible refine LeO.ite ?_ ?_)
   | (with_reducible refine LeO.bind ?_ (fun _ => ?_))
   | exact ih0 _ _ _ _ _ _ _ _ _ _
   | exact ih1 _ _ _ _ _ _ _
   | exact ih2 _ _ _
   | exact impl_HexBridges.mono _ _ _ _
   | exact laws_eqHex.mono _ _ _ _ _
   | exact laws_eqInt64SS.mono _ _ _
   | exact laws_heldInt64SS.mono _ _ _
   | exact laws_markHex.mono _ _ _ _
   | exact laws_markInt64SS.mono _ _ _
   | exact laws_toHex.mono _ _ _
   | exact spec_HexBridges.mono _ _ _ _
   | exact LeO.none _
   | refine LeO.ite ?_ ?_
   | refine LeO.bind ?_ (fun _ => ?_)
theorem laws_FnExactHexBridges.mono : ∀ a0 a1 a2 k, LeO (laws_FnExactHexBridges.f k a0 a1 a2) (laws_FnExactHexBridges.f (k + 1) a0 a1 a2) := by
 intro a0 a1 a2 k
 obtain ⟨ih0, ih1, ih2⟩ := laws_FnExactHexBridges.mono_l k
 unfold laws_FnExactHexBridges.f
 repeat' first
   | (with_reducible exact ih0 _ _ _ _ _ _ _ _ _ _)
   | (with_reducible exact ih1 _ _ _ _ _ _ _)
   | (with_reducible exact ih2 _ _ _)
   | (with_reducible exact impl_HexBridges.mono _ _ _ _)
   | (with_reducible exact laws_eqHex.mono _ _ _ _ _)
   | (with_reducible exact laws_eqInt64SS.mono _ _ _)
   | (with_reducible exact laws_heldInt64SS.mono _ _ _)
   | (with_reducible exact laws_markHex.mono _ _ _ _)
   | (with_reducible exact laws_markInt64SS.mono _ _ _)
   | (with_reducible exact laws_toHex.mono _ _ _)
   | (with_reducible exact spec_HexBridges.mono _ _ _ _)
   | (with_reducible exact LeO.refl _)
   | (with_reducible exact LeO.none _)
   | (with_reducible refine LeO.ite ?_ ?_)
   | (with_reducible refine LeO.bind ?_ (fun _ => ?_))
   | exact ih0 _ _ _ _ _ _ _ _ _ _
   | exact ih1 _ _ _ _ _ _ _
   | exact ih2 _ _ _
   | exact impl_HexBridges.mono _ _ _ _
   | exact laws_eqHex.mono _ _ _ _ _
   | exact laws_eqInt64SS.mono _ _ _
   | exact laws_heldInt64SS.mono _ _ _
   | exact laws_markHex.mono _ _ _ _
   | exact laws_markInt64SS.mono _ _ _
   | exact laws_toHex.mono _ _ _
   | exact spec_HexBridges.mono _ _ _ _
   | exact LeO.none _
   | refine LeO.ite ?_ ?_
   | refine LeO.bind ?_ (fun _ => ?_)
set_option maxHeartbeats 8000000 in
set_option maxRecDepth 100000 in
theorem laws_FnExactHexBridges.calls (k : Nat) (a0_0 : Int) (A0_1 : Option Addr) (c0_1 : Nat) (l0_1 : List Int) (a1 : Int) (r : Bool) (w : World) (hr0_1 : Kd.C (Kd.int .i64) w A0_1 l0_1.length l0_1) (hc0_1 : l0_1.length ≤ c0_1) (h : laws_FnExactHexBridges.f k a0_0 l0_1 a1 = some r) :
  Calls Try.prog 3 #[.agg #[.int .i64 a0_0, .slice A0_1 l0_1.length c0_1], .int .i64 a1] w fun e w' => e = .returned (.bool r) ∧ Below w.heap.size w w' := by
 have hu24 := Try.underlying24
 have hu29 := Try.underlying29
 have HR0_1 := Aside0.mk hr0_1
 have HC0_1 := Aside0.mk hc0_1
 clear hr0_1 hc0_1
 have HB := Aside0.mk (Below.refl w.heap.size w)
 have H : ((laws_szHex.f a0_0 l0_1 1048576).bind fun t197 => (if t197 < 0 then (some true) else ((laws_toHex.f k a0_0 l0_1).bind fun bt198 => ((spec_HexBridges.f k bt198.1 bt198.2 a1).bind fun bt202 => ((laws_toHex.f k a0_0 l0_1).bind fun bt206 => ((impl_HexBridges.f k bt206.1 bt206.2 a1).bind fun bt211 => ((laws_eqInt64SS.f k bt211.1 bt202.1).bind fun t215 => (if t215 = true then (laws_FnExactHexBridges.j0 k a1 bt202.1 bt202.2 bt211.1 bt211.2 (bt211.2 != bt202.2) a0_0 l0_1 bt206.1 bt206.2) else (laws_FnExactHexBridges.j0 k a1 bt202.1 bt202.2 bt211.1 bt211.2 true a0_0 l0_1 bt206.1 bt206.2))))))))) = some r := h
 clear h
 replace H := Option.bind_eq_some_iff.mp H
 obtain ⟨t197, A30, H⟩ := H
 replace H : (if t197 < 0 then (some true) else ((laws_toHex.f k a0_0 l0_1).bind fun bt198 => ((spec_HexBridges.f k bt198.1 bt198.2 a1).bind fun bt202 => ((laws_toHex.f k a0_0 l0_1).bind fun bt206 => ((impl_HexBridges.f k bt206.1 bt206.2 a1).bind fun bt211 => ((laws_eqInt64SS.f k bt211.1 bt202.1).bind fun t215 => (if t215 = true then (laws_FnExactHexBridges.j0 k a1 bt202.1 bt202.2 bt211.1 bt211.2 (bt211.2 != bt202.2) a0_0 l0_1 bt206.1 bt206.2) else (laws_FnExactHexBridges.j0 k a1 bt202.1 bt202.2 bt211.1 bt211.2 true a0_0 l0_1 bt206.1 bt206.2)))))))) = some r := H
 have A3 := Aside0.mk A30
 clear A30
 by_cases c4 : t197 < 0
 ·rw [if_pos c4] at H
  have c4b0 : decide (t197 < 0) = true := decide_eq_true c4
  clear c4
  obtain rfl := Option.some.inj H
  go_enter Try.func3, Try.ntmps3
  go_wp2_with (first | ((with_reducible refine gate_dst (N := 2) rfl ?_); refine box_event ?hg (N := 2) ?hd (cs := #[.int .i64 a0_0, .slice A0_1 l0_1.length c0_1]) (t := 24) ?hr ?_; (case hd => rfl); (case hg => rfl); (case hr => first | (go_simp; done) | (go_simp; rfl)); intro gb196 hg w5 hbox hb; have n0_ := Aside0.mk (below_step (by repeat (first | (with_reducible first | exact HB.out | apply below_alloc | apply pw_below_drewN | apply below_drew1) | exact HB.out)) hb); have n1_ := Aside0.mk (hbox); have n2_ := Aside0.mk ((by rw [hg]; exact (below_size (by repeat (first | (with_reducible first | exact HB.out | apply below_alloc | apply pw_below_drewN | apply below_drew1) | exact HB.out))) : w.heap.size ≤ gb196)); have n3_ := Aside0.mk ((by rw [hg]; exact (below_size (by repeat (first | (with_reducible first | exact HB.out | apply below_alloc | apply pw_below_drewN | apply below_drew1) | exact HB.out))) : w.heap.size ≤ gb196)); clear HB; have HB := n0_; have BK196 := n1_; have GW196 := n2_; have GE196 := n3_; clear n0_ n1_ n2_ n3_; clear hb hbox hg; have hcz6_0 : w5.cell? ⟨gb196, 0, none⟩ = some (.int .i64 a0_0) := (blk_cell BK196.out 0).trans rfl; have hcz6_1 : w5.cell? ⟨gb196, 1, none⟩ = some (.slice A0_1 l0_1.length c0_1) := (blk_cell BK196.out 1).trans rfl; have hfz6_0 := blk_frozen BK196.out 0; have hfz6_1 := blk_frozen BK196.out 1) | ((with_reducible refine gate_callee (f := 8) rfl ?_); refine goesL_ (some 18) rfl rfl Try.func8 (by kernel_rfl) rfl #[.agg #[.int .i64 a0_0, .slice A0_1 l0_1.length c0_1], .int .i64 1048576] rfl (by (try simp only [List.map_toArray, List.map_cons, List.map_nil]); first | done | rfl | (simp only [List.length_drop, List.length_take]; rfl)) ?_; (with_reducible refine (laws_szHex.calls a0_0 _ _ l0_1 1048576 t197 _ ?side1 ?side2 A3.out).mono ?_); (case side1 => repeat (first | exact (Kd.C_below HR0_1.out HB.out) | (with_reducible refine Kd.C_alloc ?_ _) | (with_reducible refine Kd.C_drewN ?_ _) | (with_reducible refine Kd.C_drew ?_))); (case side2 => exact HC0_1.out); rintro e w7 ⟨rfl, hb⟩; refine ⟨_, rfl, ?_⟩; have n0_ := Aside0.mk (blk_below (g := gb196) (o := .cells #[.int .i64 a0_0, .slice A0_1 l0_1.length c0_1] 24 (0, 0)) (by (with_reducible repeat (first | refine blk_drewN ?_ _ | refine blk_drew ?_ | refine blk_alloc ?_ _)); exact BK196.out) hb); have n1_ := Aside0.mk (below_step (by repeat (first | (with_reducible first | exact HB.out | apply below_alloc | apply pw_below_drewN | apply below_drew1 | refine below_set ?_ GE196.out) | exact HB.out)) hb); clear BK196; clear HB; have BK196 := n0_; have HB := n1_; clear n0_ n1_; (try clear hb); (try clear hb2); (try clear hk); (try clear hi)))
  go_ret
  exact ⟨by first | rfl | (simp [errW_none, errW_some] <;> rfl) | (simp [*, errW_none, errW_some] <;> rfl), by repeat (first | (with_reducible first | exact HB.out | apply below_alloc | apply pw_below_drewN | apply below_drew1 | refine below_set ?_ GE196.out) | exact HB.out)⟩
 ·rw [if_neg c4] at H
  have c4b0 : decide (t197 < 0) = false := decide_eq_false c4
  clear c4
  replace H := Option.bind_eq_some_iff.mp H
  obtain ⟨⟨t198, t199⟩, A80, H⟩ := H
  replace H : ((spec_HexBridges.f k t198 t199 a1).bind fun bt202 => ((laws_toHex.f k a0_0 l0_1).bind fun bt206 => ((impl_HexBridges.f k bt206.1 bt206.2 a1).bind fun bt211 => ((laws_eqInt64SS.f k bt211.1 bt202.1).bind fun t215 => (if t215 = true then (laws_FnExactHexBridges.j0 k a1 bt202.1 bt202.2 bt211.1 bt211.2 (bt211.2 != bt202.2) a0_0 l0_1 bt206.1 bt206.2) else (laws_FnExactHexBridges.j0 k a1 bt202.1 bt202.2 bt211.1 bt211.2 true a0_0 l0_1 bt206.1 bt206.2)))))) = some r := H
  have A8 := Aside0.mk A80
  clear A80
  replace H := Option.bind_eq_some_iff.mp H
  obtain ⟨⟨t202, t205⟩, A90, H⟩ := H
  replace H : ((laws_toHex.f k a0_0 l0_1).bind fun bt206 => ((impl_HexBridges.f k bt206.1 bt206.2 a1).bind fun bt211 => ((laws_eqInt64SS.f k bt211.1 t202).bind fun t215 => (if t215 = true then (laws_FnExactHexBridges.j0 k a1 t202 t205 bt211.1 bt211.2 (bt211.2 != t205) a0_0 l0_1 bt206.1 bt206.2) else (laws_FnExactHexBridges.j0 k a1 t202 t205 bt211.1 bt211.2 true a0_0 l0_1 bt206.1 bt206.2))))) = some r := H
  have A9 := Aside0.mk A90
  clear A90
  replace H := Option.bind_eq_some_iff.mp H
  obtain ⟨⟨t206, t207⟩, A100, H⟩ := H
  replace H : ((impl_HexBridges.f k t206 t207 a1).bind fun bt211 => ((laws_eqInt64SS.f k bt211.1 t202).bind fun t215 => (if t215 = true then (laws_FnExactHexBridges.j0 k a1 t202 t205 bt211.1 bt211.2 (bt211.2 != t205) a0_0 l0_1 t206 t207) else (laws_FnExactHexBridges.j0 k a1 t202 t205 bt211.1 bt211.2 true a0_0 l0_1 t206 t207)))) = some r := H
  have A10 := Aside0.mk A100
  clear A100
  replace H := Option.bind_eq_some_iff.mp H
  obtain ⟨⟨t211, t214⟩, A110, H⟩ := H
  replace H : ((laws_eqInt64SS.f k t211 t202).bind fun t215 => (if t215 = true then (laws_FnExactHexBridges.j0 k a1 t202 t205 t211 t214 (t214 != t205) a0_0 l0_1 t206 t207) else (laws_FnExactHexBridges.j0 k a1 t202 t205 t211 t214 true a0_0 l0_1 t206 t207))) = some r := H
  have A11 := Aside0.mk A110
  clear A110
  have HC12 := Aside0.mk H
  clear H
  go_enter Try.func3, Try.ntmps3
  go_upto_region 8 with (first | ((with_reducible refine gate_dst (N := 2) rfl ?_); refine box_event ?hg (N := 2) ?hd (cs := #[.int .i64 a0_0, .slice A0_1 l0_1.length c0_1]) (t := 24) ?hr ?_; (case hd => rfl); (case hg => rfl); (case hr => first | (go_simp; done) | (go_simp; rfl)); intro gb196 hg w13 hbox hb; have n0_ := Aside0.mk (below_step (by repeat (first | (with_reducible first | exact HB.out | apply below_alloc | apply pw_below_drewN | apply below_drew1) | exact HB.out)) hb); have n1_ := Aside0.mk (hbox); have n2_ := Aside0.mk ((by rw [hg]; exact (below_size (by repeat (first | (with_reducible first | exact HB.out | apply below_alloc | apply pw_below_drewN | apply below_drew1) | exact HB.out))) : w.heap.size ≤ gb196)); have n3_ := Aside0.mk ((by rw [hg]; exact (below_size (by repeat (first | (with_reducible first | exact HB.out | apply below_alloc | apply pw_below_drewN | apply below_drew1) | exact HB.out))) : w.heap.size ≤ gb196)); clear HB; have HB := n0_; have BK196 := n1_; have GW196 := n2_; have GE196 := n3_; clear n0_ n1_ n2_ n3_; clear hb hbox hg; have hcz14_0 : w13.cell? ⟨gb196, 0, none⟩ = some (.int .i64 a0_0) := (blk_cell BK196.out 0).trans rfl; have hcz14_1 : w13.cell? ⟨gb196, 1, none⟩ = some (.slice A0_1 l0_1.length c0_1) := (blk_cell BK196.out 1).trans rfl; have hfz14_0 := blk_frozen BK196.out 0; have hfz14_1 := blk_frozen BK196.out 1) | ((with_reducible refine gate_callee (f := 8) rfl ?_); refine goesL_ (some 18) rfl rfl Try.func8 (by kernel_rfl) rfl #[.agg #[.int .i64 a0_0, .slice A0_1 l0_1.length c0_1], .int .i64 1048576] rfl (by (try simp only [List.map_toArray, List.map_cons, List.map_nil]); first | done | rfl | (simp only [List.length_drop, List.length_take]; rfl)) ?_; (with_reducible refine (laws_szHex.calls a0_0 _ _ l0_1 1048576 t197 _ ?side1 ?side2 A3.out).mono ?_); (case side1 => repeat (first | exact (Kd.C_below HR0_1.out HB.out) | (with_reducible refine Kd.C_alloc ?_ _) | (with_reducible refine Kd.C_drewN ?_ _) | (with_reducible refine Kd.C_drew ?_))); (case side2 => exact HC0_1.out); rintro e w15 ⟨rfl, hb⟩; refine ⟨_, rfl, ?_⟩; have n0_ := Aside0.mk (blk_below (g := gb196) (o := .cells #[.int .i64 a0_0, .slice A0_1 l0_1.length c0_1] 24 (0, 0)) (by (with_reducible repeat (first | refine blk_drewN ?_ _ | refine blk_drew ?_ | refine blk_alloc ?_ _)); exact BK196.out) hb); have n1_ := Aside0.mk (below_step (by repeat (first | (with_reducible first | exact HB.out | apply below_alloc | apply pw_below_drewN | apply below_drew1 | refine below_set ?_ GE196.out) | exact HB.out)) hb); clear BK196; clear HB; have BK196 := n0_; have HB := n1_; clear n0_ n1_; (try clear hb); (try clear hb2); (try clear hk); (try clear hi); have hcz16_0 : w15.cell? ⟨gb196, 0, none⟩ = some (.int .i64 a0_0) := (blk_cell BK196.out 0).trans rfl; have hcz16_1 : w15.cell? ⟨gb196, 1, none⟩ = some (.slice A0_1 l0_1.length c0_1) := (blk_cell BK196.out 1).trans rfl; have hfz16_0 := blk_frozen BK196.out 0; have hfz16_1 := blk_frozen BK196.out 1) | ((with_reducible refine gate_callee (f := 10) rfl ?_); refine goesL_ (some 23) rfl rfl Try.func10 (by kernel_rfl) rfl #[.agg #[.int .i64 a0_0, .slice A0_1 l0_1.length c0_1]] rfl (by (try simp only [List.map_toArray, List.map_cons, List.map_nil]); first | done | rfl | (simp only [List.length_drop, List.length_take]; rfl)) ?_; (with_reducible refine (laws_toHex.calls k a0_0 _ _ l0_1 t198 t199 _ ?side1 ?side2 A8.out).mono ?_); (case side1 => repeat (first | exact (Kd.C_below HR0_1.out HB.out) | (with_reducible refine Kd.C_alloc ?_ _) | (with_reducible refine Kd.C_drewN ?_ _) | (with_reducible refine Kd.C_drew ?_))); (case side2 => exact HC0_1.out); rintro e w17 ⟨v200, rfl, ho0, hb⟩; refine ⟨_, rfl, ?_⟩; have n0_ := Aside0.mk (Kd.R_lower ho0 (below_size (by repeat (first | (with_reducible first | exact HB.out | apply below_alloc | apply pw_below_drewN | apply below_drew1 | refine below_set ?_ GE196.out) | exact HB.out)))); have n1_ := Aside0.mk (blk_below (g := gb196) (o := .cells #[.int .i64 a0_0, .slice A0_1 l0_1.length c0_1] 24 (0, 0)) (by (with_reducible repeat (first | refine blk_drewN ?_ _ | refine blk_drew ?_ | refine blk_alloc ?_ _)); exact BK196.out) hb); have n2_ := Aside0.mk (below_step (by repeat (first | (with_reducible first | exact HB.out | apply below_alloc | apply pw_below_drewN | apply below_drew1 | refine below_set ?_ GE196.out) | exact HB.out)) hb); clear BK196; clear HB; have HO201 := n0_; have BK196 := n1_; have HB := n2_; clear n0_ n1_ n2_; (try clear hb); (try clear hb2); (try clear hk); (try clear hi); (try clear ho0); obtain ⟨Ao18, co18, eo18⟩ := Kd.R_slice HO201.out; subst eo18) | ((with_reducible refine gate_callee (f := 9) rfl ?_); refine goesL_ (some 25) rfl rfl Try.func9 (by kernel_rfl) rfl #[.agg #[.int .i64 t198, .slice Ao18 t199.length co18], .int .i64 a1] rfl (by (try simp only [List.map_toArray, List.map_cons, List.map_nil]); first | done | rfl | (simp only [List.length_drop, List.length_take]; rfl)) ?_; (with_reducible refine (spec_HexBridges.calls k t198 _ _ t199 a1 t202 t205 _ ?side1 ?side2 A9.out).mono ?_); (case side1 => repeat (first | exact (Kd.R_reads' HO201.out).2.2 | (with_reducible refine Kd.C_alloc ?_ _) | (with_reducible refine Kd.C_drewN ?_ _) | (with_reducible refine Kd.C_drew ?_))); (case side2 => exact (Kd.R_reads' HO201.out).2.1); rintro e w19 ⟨v203, rfl, ho0, hb⟩; refine ⟨_, rfl, ?_⟩; have n0_ := Aside0.mk (Kd.R_below (by (with_reducible repeat (first | apply Kd.R_alloc | apply Kd.R_drewN | apply Kd.R_drew)); exact HO201.out) hb); have n1_ := Aside0.mk (Kd.S_lower (Kd.S_new' ho0 (Kd.R_lt (by (with_reducible repeat (first | apply Kd.R_alloc | apply Kd.R_drewN | apply Kd.R_drew)); exact HO201.out))) (below_size (by repeat (first | (with_reducible first | exact HB.out | apply below_alloc | apply pw_below_drewN | apply below_drew1 | refine below_set ?_ GE196.out) | exact HB.out)))); have n2_ := Aside0.mk (blk_below (g := gb196) (o := .cells #[.int .i64 a0_0, .slice A0_1 l0_1.length c0_1] 24 (0, 0)) (by (with_reducible repeat (first | refine blk_drewN ?_ _ | refine blk_drew ?_ | refine blk_alloc ?_ _)); exact BK196.out) hb); have n3_ := Aside0.mk (below_step (by repeat (first | (with_reducible first | exact HB.out | apply below_alloc | apply pw_below_drewN | apply below_drew1 | refine below_set ?_ GE196.out) | exact HB.out)) hb); clear HO201; clear BK196; clear HB; have HO201 := n0_; have HO204 := n1_; have BK196 := n2_; have HB := n3_; clear n0_ n1_ n2_ n3_; (try clear hb); (try clear hb2); (try clear hk); (try clear hi); (try clear ho0); have hcz20_0 : w19.cell? ⟨gb196, 0, none⟩ = some (.int .i64 a0_0) := (blk_cell BK196.out 0).trans rfl; have hcz20_1 : w19.cell? ⟨gb196, 1, none⟩ = some (.slice A0_1 l0_1.length c0_1) := (blk_cell BK196.out 1).trans rfl; have hfz20_0 := blk_frozen BK196.out 0; have hfz20_1 := blk_frozen BK196.out 1) | ((with_reducible refine gate_callee (f := 10) rfl ?_); refine goesL_ (some 29) rfl rfl Try.func10 (by kernel_rfl) rfl #[.agg #[.int .i64 a0_0, .slice A0_1 l0_1.length c0_1]] rfl (by (try simp only [List.map_toArray, List.map_cons, List.map_nil]); first | done | rfl | (simp only [List.length_drop, List.length_take]; rfl)) ?_; (with_reducible refine (laws_toHex.calls k a0_0 _ _ l0_1 t206 t207 _ ?side1 ?side2 A10.out).mono ?_); (case side1 => repeat (first | exact (Kd.C_below HR0_1.out HB.out) | (with_reducible refine Kd.C_alloc ?_ _) | (with_reducible refine Kd.C_drewN ?_ _) | (with_reducible refine Kd.C_drew ?_))); (case side2 => exact HC0_1.out); rintro e w21 ⟨v208, rfl, ho0, hb⟩; refine ⟨_, rfl, ?_⟩; have n0_ := Aside0.mk (Kd.R_elder' (by (with_reducible repeat (first | apply Kd.R_alloc | apply Kd.R_drewN | apply Kd.R_drew)); exact HO201.out) (Kd.R_base ho0) hb); have n1_ := Aside0.mk (Kd.S_elder' (by (with_reducible repeat (first | apply Kd.S_alloc | apply Kd.S_drewN | apply Kd.S_drew)); exact HO204.out) (Kd.R_base ho0) hb); have n2_ := Aside0.mk (Kd.R_lower (Kd.R_new' ho0 (Kd.R_lt (by (with_reducible repeat (first | apply Kd.R_alloc | apply Kd.R_drewN | apply Kd.R_drew)); exact HO201.out))) (below_size (by repeat (first | (with_reducible first | exact HB.out | apply below_alloc | apply pw_below_drewN | apply below_drew1 | refine below_set ?_ GE196.out) | exact HB.out)))); have n3_ := Aside0.mk (blk_below (g := gb196) (o := .cells #[.int .i64 a0_0, .slice A0_1 l0_1.length c0_1] 24 (0, 0)) (by (with_reducible repeat (first | refine blk_drewN ?_ _ | refine blk_drew ?_ | refine blk_alloc ?_ _)); exact BK196.out) hb); have n4_ := Aside0.mk (below_step (by repeat (first | (with_reducible first | exact HB.out | apply below_alloc | apply pw_below_drewN | apply below_drew1 | refine below_set ?_ GE196.out) | exact HB.out)) hb); clear HO201; clear HO204; clear BK196; clear HB; have HO201 := n0_; have HO204 := n1_; have HO209 := n2_; have BK196 := n3_; have HB := n4_; clear n0_ n1_ n2_ n3_ n4_; (try clear hb); (try clear hb2); (try clear hk); (try clear hi); (try clear ho0)) | ((with_reducible refine gate_dst (N := 8) rfl ?_); refine box_event ?hg (N := 8) ?hd (cs := #[.int .i64 0, .slice none 0 0]) (t := 29) ?hr ?_; (case hd => rfl); (case hg => rfl); (case hr => first | (go_simp; done) | (go_simp; rfl)); intro gb210 hg w22 hbox hb; have n0_ := Aside0.mk (Kd.R_below (by (with_reducible repeat (first | apply Kd.R_alloc | apply Kd.R_drewN | apply Kd.R_drew)); exact HO201.out) hb); have n1_ := Aside0.mk (Kd.S_below (by (with_reducible repeat (first | apply Kd.S_alloc | apply Kd.S_drewN | apply Kd.S_drew)); exact HO204.out) hb); have n2_ := Aside0.mk (Kd.R_below (by (with_reducible repeat (first | apply Kd.R_alloc | apply Kd.R_drewN | apply Kd.R_drew)); exact HO209.out) hb); have n3_ := Aside0.mk (blk_below (g := gb196) (o := .cells #[.int .i64 a0_0, .slice A0_1 l0_1.length c0_1] 24 (0, 0)) (by (with_reducible repeat (first | refine blk_drewN ?_ _ | refine blk_drew ?_ | refine blk_alloc ?_ _)); exact BK196.out) hb); have n4_ := Aside0.mk (below_step (by repeat (first | (with_reducible first | exact HB.out | apply below_alloc | apply pw_below_drewN | apply below_drew1 | refine below_set ?_ GE196.out) | exact HB.out)) hb); have n5_ := Aside0.mk (hbox); have n6_ := Aside0.mk ((by rw [hg]; exact (below_size (by repeat (first | (with_reducible first | exact HB.out | apply below_alloc | apply pw_below_drewN | apply below_drew1 | refine below_set ?_ GE196.out) | exact HB.out))) : w.heap.size ≤ gb210)); have n7_ := Aside0.mk ((by rw [hg]; exact (below_size (by repeat (first | (with_reducible first | exact HB.out | apply below_alloc | apply pw_below_drewN | apply below_drew1 | refine below_set ?_ GE196.out) | exact HB.out))) : w.heap.size ≤ gb210)); have n8_ := Aside0.mk ((by rw [hg]; exact Nat.ne_of_lt (blk_lt (g := gb196) (o := .cells #[.int .i64 a0_0, .slice A0_1 l0_1.length c0_1] 24 (0, 0)) (by (with_reducible repeat (first | refine blk_drewN ?_ _ | refine blk_drew ?_ | refine blk_alloc ?_ _)); exact BK196.out)) : gb196 ≠ gb210)); have n9_ := Aside0.mk ((by rw [hg]; exact Nat.ne_of_gt (blk_lt (g := gb196) (o := .cells #[.int .i64 a0_0, .slice A0_1 l0_1.length c0_1] 24 (0, 0)) (by (with_reducible repeat (first | refine blk_drewN ?_ _ | refine blk_drew ?_ | refine blk_alloc ?_ _)); exact BK196.out)) : gb210 ≠ gb196)); clear HO201; clear HO204; clear HO209; clear BK196; clear HB; have HO201 := n0_; have HO204 := n1_; have HO209 := n2_; have BK196 := n3_; have HB := n4_; have BK210 := n5_; have GW210 := n6_; have GE210 := n7_; have NB196_210 := n8_; have NB210_196 := n9_; clear n0_ n1_ n2_ n3_ n4_ n5_ n6_ n7_ n8_ n9_; clear hb hbox hg; have hnb23 := NB210_196.out; have hnc23 := NB196_210.out; have hcz24_0 : w22.cell? ⟨gb210, 0, none⟩ = some (.int .i64 0) := (blk_cell BK210.out 0).trans rfl; have hcz24_1 : w22.cell? ⟨gb210, 1, none⟩ = some (.slice none 0 0) := (blk_cell BK210.out 1).trans rfl; have hfz24_0 := blk_frozen BK210.out 0; have hfz24_1 := blk_frozen BK210.out 1; obtain ⟨Ao25, co25, eo25⟩ := Kd.R_slice HO209.out; subst eo25) | ((with_reducible refine gate_callee (f := 11) rfl ?_); refine goesL_ (some 33) rfl rfl Try.func11 (by kernel_rfl) rfl #[.agg #[.int .i64 t206, .slice Ao25 t207.length co25], .int .i64 a1] rfl (by (try simp only [List.map_toArray, List.map_cons, List.map_nil]); first | done | rfl | (simp only [List.length_drop, List.length_take]; rfl)) ?_; (with_reducible refine (impl_HexBridges.calls k t206 _ _ t207 a1 t211 t214 _ ?side1 ?side2 A11.out).mono ?_); (case side1 => refine (Kd.R_reads' (e := 2) (base := w.heap.size) (ok := fun k_ => (True ∧ some k_ ≠ (.slice Ao18 t199.length co18 : Value).ownBlock)) (n := t207.length) (c := co25) ?_).2.2; exact (by (with_reducible repeat (first | apply Kd.R_alloc | apply Kd.R_drewN | apply Kd.R_drew)); exact (Kd.R_mono (Kd.R_far (p := ⟨gb210, 1, none⟩) (Kd.R_far (p := ⟨gb210, 0, none⟩) (Kd.R_types HO209.out BK210.out (by decide)) (fun _ hk => hk.2) (.int .i64 t206)) (fun _ hk => hk.2) (.slice Ao25 t207.length co25)) (fun _ h_ => h_.1)))); (case side2 => exact (Kd.R_reads' HO209.out).2.1); rintro e w26 ⟨v212, rfl, ho0, hb⟩; refine ⟨_, rfl, ?_⟩; obtain ⟨nq27, hi⟩ := nq_of hb; have n0_ := Aside0.mk (Kd.R_below (by (with_reducible repeat (first | apply Kd.R_alloc | apply Kd.R_drewN | apply Kd.R_drew)); exact (Kd.R_mono (Kd.R_far (p := ⟨gb210, 1, none⟩) (Kd.R_far (p := ⟨gb210, 0, none⟩) (Kd.R_types HO201.out BK210.out (by decide)) (fun _ hk => hk.2) (.int .i64 t206)) (fun _ hk => hk.2) (.slice Ao25 t207.length co25)) (fun _ h_ => h_.1))) hb); have n1_ := Aside0.mk (Kd.S_elder' (S_ltN (by (with_reducible repeat (first | apply Kd.S_alloc | apply Kd.S_drewN | apply Kd.S_drew)); exact (Kd.S_mono (Kd.S_far (p := ⟨gb210, 1, none⟩) (Kd.S_far (p := ⟨gb210, 0, none⟩) (Kd.S_types HO204.out BK210.out (by decide)) (fun _ hk => hk.2) (.int .i64 t206)) (fun _ hk => hk.2) (.slice Ao25 t207.length co25)) (fun _ h_ => h_.1))) hi) (Kd.S_base ho0) hb); have n2_ := Aside0.mk (Kd.R_below (by (with_reducible repeat (first | apply Kd.R_alloc | apply Kd.R_drewN | apply Kd.R_drew)); exact (Kd.R_mono (Kd.R_far (p := ⟨gb210, 1, none⟩) (Kd.R_far (p := ⟨gb210, 0, none⟩) (Kd.R_types HO209.out BK210.out (by decide)) (fun _ hk => hk.2) (.int .i64 t206)) (fun _ hk => hk.2) (.slice Ao25 t207.length co25)) (fun _ h_ => h_.1))) hb); have n3_ := Aside0.mk (Kd.S_lower (Kd.S_new' (Kd.S_new' (Kd.S_new' (S_geN ho0 hi) (Kd.R_lt (by (with_reducible repeat (first | apply Kd.R_alloc | apply Kd.R_drewN | apply Kd.R_drew)); exact (Kd.R_mono (Kd.R_far (p := ⟨gb210, 1, none⟩) (Kd.R_far (p := ⟨gb210, 0, none⟩) (Kd.R_types HO201.out BK210.out (by decide)) (fun _ hk => hk.2) (.int .i64 t206)) (fun _ hk => hk.2) (.slice Ao25 t207.length co25)) (fun _ h_ => h_.1))))) (Kd.S_lt (by (with_reducible repeat (first | apply Kd.S_alloc | apply Kd.S_drewN | apply Kd.S_drew)); exact (Kd.S_mono (Kd.S_far (p := ⟨gb210, 1, none⟩) (Kd.S_far (p := ⟨gb210, 0, none⟩) (Kd.S_types HO204.out BK210.out (by decide)) (fun _ hk => hk.2) (.int .i64 t206)) (fun _ hk => hk.2) (.slice Ao25 t207.length co25)) (fun _ h_ => h_.1))))) (Kd.R_lt (by (with_reducible repeat (first | apply Kd.R_alloc | apply Kd.R_drewN | apply Kd.R_drew)); exact (Kd.R_mono (Kd.R_far (p := ⟨gb210, 1, none⟩) (Kd.R_far (p := ⟨gb210, 0, none⟩) (Kd.R_types HO209.out BK210.out (by decide)) (fun _ hk => hk.2) (.int .i64 t206)) (fun _ hk => hk.2) (.slice Ao25 t207.length co25)) (fun _ h_ => h_.1))))) (below_size (by repeat (first | (with_reducible first | exact HB.out | apply below_alloc | apply pw_below_drewN | apply below_drew1 | refine below_set ?_ GE196.out | refine below_set ?_ GE210.out) | exact HB.out)))); have n4_ := Aside0.mk (blk_below (g := gb196) (o := .cells #[.int .i64 a0_0, .slice A0_1 l0_1.length c0_1] 24 (0, 0)) (by (with_reducible repeat (first | refine blk_drewN ?_ _ | refine blk_drew ?_ | refine blk_alloc ?_ _)); refine blk_far ?_ NB196_210.out _; (with_reducible repeat (first | refine blk_drewN ?_ _ | refine blk_drew ?_ | refine blk_alloc ?_ _)); refine blk_far ?_ NB196_210.out _; (with_reducible repeat (first | refine blk_drewN ?_ _ | refine blk_drew ?_ | refine blk_alloc ?_ _)); exact BK196.out) hb); have n5_ := Aside0.mk (blk_below (g := gb210) (o := .cells #[.int .i64 t206, .slice Ao25 t207.length co25] 29 (0, 0)) (by (with_reducible repeat (first | refine blk_drewN ?_ _ | refine blk_drew ?_ | refine blk_alloc ?_ _)); refine blk_put (cs := #[.int .i64 t206, .slice none 0 0]) ?_ 1 _ rfl; (with_reducible repeat (first | refine blk_drewN ?_ _ | refine blk_drew ?_ | refine blk_alloc ?_ _)); refine blk_put (cs := #[.int .i64 0, .slice none 0 0]) ?_ 0 _ rfl; (with_reducible repeat (first | refine blk_drewN ?_ _ | refine blk_drew ?_ | refine blk_alloc ?_ _)); exact BK210.out) hb); have n6_ := Aside0.mk (below_step (by repeat (first | (with_reducible first | exact HB.out | apply below_alloc | apply pw_below_drewN | apply below_drew1 | refine below_set ?_ GE196.out | refine below_set ?_ GE210.out) | exact HB.out)) hb); clear HO201; clear HO204; clear HO209; clear BK196; clear BK210; clear HB; have HO201 := n0_; have HO204 := n1_; have HO209 := n2_; have HO213 := n3_; have BK196 := n4_; have BK210 := n5_; have HB := n6_; clear n0_ n1_ n2_ n3_ n4_ n5_ n6_; (try clear hb); (try clear hb2); (try clear hk); (try clear hi); (try clear ho0)))
  (try simp only [Act.put, List.setIfInBounds_toArray, List.set_cons_zero, List.set_cons_succ])
  go_cut [44] (fun v44 wc => ∃ (kq : Nat) (x44_11 : Bool), v44 = .bool x44_11 ∧ Aside0 (laws_FnExactHexBridges.j0 kq a1 t202 t205 t211 t214 x44_11 a0_0 l0_1 t206 t207 = some r) ∧ Aside0 (kq ≤ k) ∧ Aside0 (Kd.S (Kd.slice 2 (Kd.int .i64)) 22 wc w.heap.size (fun k_ => some k_ ≠ (v212 : Value).ownBlock ∧ some k_ ≠ ((.slice Ao25 t207.length co25) : Value).ownBlock ∧ k_ < nq27) v203 t202) ∧ Aside0 (Kd.S (Kd.slice 2 (Kd.int .i64)) 22 wc w.heap.size (fun k_ => some k_ ≠ (v203 : Value).ownBlock ∧ some k_ ≠ ((.slice Ao25 t207.length co25) : Value).ownBlock ∧ nq27 ≤ k_) v212 t211) ∧ Aside0 (Kd.R (Kd.int .i64) 2 wc w.heap.size (fun _ => True) (.slice Ao25 t207.length co25) t207) ∧ Aside0 (wc.heap[gb196]? = some (.cells #[.int .i64 a0_0, (.slice A0_1 l0_1.length c0_1)] 24 (0, 0))) ∧ Aside0 (wc.heap[gb210]? = some (.cells #[.int .i64 t206, (.slice Ao25 t207.length co25)] 29 (0, 0))) ∧ Aside0 (Below w.heap.size w wc))
  case first =>
   have H := HC12.out
   clear HC12
   replace H := Option.bind_eq_some_iff.mp H
   obtain ⟨t215, A280, H⟩ := H
   replace H : (if t215 = true then (laws_FnExactHexBridges.j0 k a1 t202 t205 t211 t214 (t214 != t205) a0_0 l0_1 t206 t207) else (laws_FnExactHexBridges.j0 k a1 t202 t205 t211 t214 true a0_0 l0_1 t206 t207)) = some r := H
   have A28 := Aside0.mk A280
   clear A280
   by_cases c29 : t215 = true
   ·subst c29
    have H1 : (laws_FnExactHexBridges.j0 k a1 t202 t205 t211 t214 (t214 != t205) a0_0 l0_1 t206 t207) = some r := by rw [if_pos rfl] at H; exact H
    clear H
    have H := H1
    clear H1
    have H' := Aside0.mk H
    clear H
    obtain ⟨Ao30, co30, eo30⟩ := Kd.S_slice HO213.out
    subst eo30
    obtain ⟨Ao31, co31, eo31⟩ := Kd.S_slice HO204.out
    subst eo31
    go_wp2_with (first | ((with_reducible refine gate_callee (f := 12) rfl ?_); refine goesL_ (some 38) rfl rfl Try.func12 (by kernel_rfl) rfl #[.slice Ao30 t211.length co30, .slice Ao31 t202.length co31] rfl (by (try simp only [List.map_toArray, List.map_cons, List.map_nil]); first | done | rfl | (simp only [List.length_drop, List.length_take]; rfl)) ?_; (with_reducible refine (laws_eqInt64SS.calls k _ _ t211 _ _ t202 true _ ?side1 ?side2 ?side3 ?side4 A28.out).mono ?_); (case side1 => repeat (first | exact (Kd.S_reads' HO213.out).2.2 | (with_reducible refine Kd.C_alloc ?_ _) | (with_reducible refine Kd.C_drewN ?_ _) | (with_reducible refine Kd.C_drew ?_))); (case side2 => exact (Kd.S_reads' HO213.out).2.1); (case side3 => repeat (first | exact (Kd.S_reads' HO204.out).2.2 | (with_reducible refine Kd.C_alloc ?_ _) | (with_reducible refine Kd.C_drewN ?_ _) | (with_reducible refine Kd.C_drew ?_))); (case side4 => exact (Kd.S_reads' HO204.out).2.1); rintro e w' ⟨rfl, ⟨nd, rfl⟩⟩; refine ⟨_, rfl, ?_⟩))
    go_meet
    case rel => exact ⟨_, ((t214 != t205)), (by first | rfl | (simp; done) | (simp [*]; done)), H', ⟨by first | omega | exact Nat.le_refl _⟩, ⟨by (with_reducible repeat (first | apply Kd.S_alloc | apply Kd.S_drewN | apply Kd.S_drew)); exact Kd.S_mono HO204.out (fun _ hk => ⟨hk.2, ⟨hk.1.1.2, hk.1.2⟩⟩)⟩, ⟨by (with_reducible repeat (first | apply Kd.S_alloc | apply Kd.S_drewN | apply Kd.S_drew)); exact Kd.S_mono HO213.out (fun _ hk => ⟨hk.1.2, ⟨hk.2, hk.1.1.1.2⟩⟩)⟩, ⟨by (with_reducible repeat (first | apply Kd.R_alloc | apply Kd.R_drewN | apply Kd.R_drew)); exact Kd.R_mono HO209.out (fun _ hk => trivial)⟩, ⟨by (with_reducible repeat (first | refine blk_drewN ?_ _ | refine blk_drew ?_ | refine blk_alloc ?_ _)); exact BK196.out⟩, ⟨by (with_reducible repeat (first | refine blk_drewN ?_ _ | refine blk_drew ?_ | refine blk_alloc ?_ _)); exact BK210.out⟩, ⟨by repeat (first | (with_reducible first | exact HB.out | apply below_alloc | apply pw_below_drewN | apply below_drew1 | refine below_set ?_ GE196.out | refine below_set ?_ GE210.out) | exact HB.out)⟩⟩
   ·replace c29 := Bool.eq_false_iff.mpr c29
    subst c29
    have H1 : (laws_FnExactHexBridges.j0 k a1 t202 t205 t211 t214 true a0_0 l0_1 t206 t207) = some r := by rw [if_neg (show ¬ (false = true) by decide)] at H; exact H
    clear H
    have H := H1
    clear H1
    have H' := Aside0.mk H
    clear H
    obtain ⟨Ao32, co32, eo32⟩ := Kd.S_slice HO213.out
    subst eo32
    obtain ⟨Ao33, co33, eo33⟩ := Kd.S_slice HO204.out
    subst eo33
    go_wp2_with (first | ((with_reducible refine gate_callee (f := 12) rfl ?_); refine goesL_ (some 38) rfl rfl Try.func12 (by kernel_rfl) rfl #[.slice Ao32 t211.length co32, .slice Ao33 t202.length co33] rfl (by (try simp only [List.map_toArray, List.map_cons, List.map_nil]); first | done | rfl | (simp only [List.length_drop, List.length_take]; rfl)) ?_; (with_reducible refine (laws_eqInt64SS.calls k _ _ t211 _ _ t202 false _ ?side1 ?side2 ?side3 ?side4 A28.out).mono ?_); (case side1 => repeat (first | exact (Kd.S_reads' HO213.out).2.2 | (with_reducible refine Kd.C_alloc ?_ _) | (with_reducible refine Kd.C_drewN ?_ _) | (with_reducible refine Kd.C_drew ?_))); (case side2 => exact (Kd.S_reads' HO213.out).2.1); (case side3 => repeat (first | exact (Kd.S_reads' HO204.out).2.2 | (with_reducible refine Kd.C_alloc ?_ _) | (with_reducible refine Kd.C_drewN ?_ _) | (with_reducible refine Kd.C_drew ?_))); (case side4 => exact (Kd.S_reads' HO204.out).2.1); rintro e w' ⟨rfl, ⟨nd, rfl⟩⟩; refine ⟨_, rfl, ?_⟩))
    go_meet
    case rel => exact ⟨_, (true), (by first | rfl | (simp; done) | (simp [*]; done)), H', ⟨by first | omega | exact Nat.le_refl _⟩, ⟨by (with_reducible repeat (first | apply Kd.S_alloc | apply Kd.S_drewN | apply Kd.S_drew)); exact Kd.S_mono HO204.out (fun _ hk => ⟨hk.2, ⟨hk.1.1.2, hk.1.2⟩⟩)⟩, ⟨by (with_reducible repeat (first | apply Kd.S_alloc | apply Kd.S_drewN | apply Kd.S_drew)); exact Kd.S_mono HO213.out (fun _ hk => ⟨hk.1.2, ⟨hk.2, hk.1.1.1.2⟩⟩)⟩, ⟨by (with_reducible repeat (first | apply Kd.R_alloc | apply Kd.R_drewN | apply Kd.R_drew)); exact Kd.R_mono HO209.out (fun _ hk => trivial)⟩, ⟨by (with_reducible repeat (first | refine blk_drewN ?_ _ | refine blk_drew ?_ | refine blk_alloc ?_ _)); exact BK196.out⟩, ⟨by (with_reducible repeat (first | refine blk_drewN ?_ _ | refine blk_drew ?_ | refine blk_alloc ?_ _)); exact BK210.out⟩, ⟨by repeat (first | (with_reducible first | exact HB.out | apply below_alloc | apply pw_below_drewN | apply below_drew1 | refine below_set ?_ GE196.out | refine below_set ?_ GE210.out) | exact HB.out)⟩⟩
  case rest =>
   clear HC12
   try clear c1
   try clear c2
   try clear p2
   try clear q2
   try clear c3
   try clear c4
   try clear c4b0
   try clear c8
   try clear c9
   try clear c10
   try clear c11
   try clear c12
   try clear c23
   try clear q27
   try clear c29
   try clear hcz14_0
   try clear hcz14_1
   try clear hcz16_0
   try clear hcz16_1
   try clear hcz20_0
   try clear hcz20_1
   try clear hcz24_0
   try clear hcz24_1
   try clear hcz6_0
   try clear hcz6_1
   try clear hfz14_0
   try clear hfz14_1
   try clear hfz16_0
   try clear hfz16_1
   try clear hfz20_0
   try clear hfz20_1
   try clear hfz24_0
   try clear hfz24_1
   try clear hfz6_0
   try clear hfz6_1
   obtain ⟨kq, x44_11, rfl, HA, HJ11, HO_6, HO_9, HO_211001, BK196, BK210, HB⟩ := hcut
   cases kq with
   | zero => exact absurd HA.out (by simp [laws_FnExactHexBridges.j0])
   | succ kj11 =>
    have H := HA.out
    clear HA
    simp only [laws_FnExactHexBridges.j0] at H
    by_cases c34 : x44_11 = true
    ·subst c34
     have H1 : (some false) = some r := by rw [if_pos rfl] at H; exact H
     clear H
     have H := H1
     clear H1
     obtain rfl := Option.some.inj H
     go_wp2
     go_ret
     exact ⟨by first | rfl | (simp [errW_none, errW_some] <;> rfl) | (simp [*, errW_none, errW_some] <;> rfl), by repeat (first | (with_reducible first | exact HB.out | apply below_alloc | apply pw_below_drewN | apply below_drew1 | refine below_set ?_ GE196.out | refine below_set ?_ GE210.out) | exact HB.out)⟩
    ·replace c34 := Bool.eq_false_iff.mpr c34
     subst c34
     have H1 : ((laws_toHex.f kj11 a0_0 l0_1).bind fun bt216 => ((laws_eqHex.f kj11 t206 t207 bt216.1 bt216.2).bind fun t220 => (if t220 = true then ((laws_markHex.f kj11 t206 t207 1).bind fun bt221 => (if bt221.1 < 0 then (laws_FnExactHexBridges.j1 kj11 a1 t202 t205 t211 true a0_0 l0_1) else ((laws_eqInt64SS.f kj11 t211 t202).bind fun t223 => (if t223 = true then (laws_FnExactHexBridges.j1 kj11 a1 t202 t205 t211 (t214 != t205) a0_0 l0_1) else (laws_FnExactHexBridges.j1 kj11 a1 t202 t205 t211 true a0_0 l0_1))))) else (some false)))) = some r := by rw [if_neg (show ¬ (false = true) by decide)] at H; exact H
     clear H
     have H := H1
     clear H1
     replace H := Option.bind_eq_some_iff.mp H
     obtain ⟨⟨t216, t217⟩, A350, H⟩ := H
     replace H : ((laws_eqHex.f kj11 t206 t207 t216 t217).bind fun t220 => (if t220 = true then ((laws_markHex.f kj11 t206 t207 1).bind fun bt221 => (if bt221.1 < 0 then (laws_FnExactHexBridges.j1 kj11 a1 t202 t205 t211 true a0_0 l0_1) else ((laws_eqInt64SS.f kj11 t211 t202).bind fun t223 => (if t223 = true then (laws_FnExactHexBridges.j1 kj11 a1 t202 t205 t211 (t214 != t205) a0_0 l0_1) else (laws_FnExactHexBridges.j1 kj11 a1 t202 t205 t211 true a0_0 l0_1))))) else (some false))) = some r := H
     have A35 := Aside0.mk A350
     clear A350
     replace H := Option.bind_eq_some_iff.mp H
     obtain ⟨t220, A360, H⟩ := H
     replace H : (if t220 = true then ((laws_markHex.f kj11 t206 t207 1).bind fun bt221 => (if bt221.1 < 0 then (laws_FnExactHexBridges.j1 kj11 a1 t202 t205 t211 true a0_0 l0_1) else ((laws_eqInt64SS.f kj11 t211 t202).bind fun t223 => (if t223 = true then (laws_FnExactHexBridges.j1 kj11 a1 t202 t205 t211 (t214 != t205) a0_0 l0_1) else (laws_FnExactHexBridges.j1 kj11 a1 t202 t205 t211 true a0_0 l0_1))))) else (some false)) = some r := H
     have A36 := Aside0.mk A360
     clear A360
     by_cases c37 : t220 = true
     ·subst c37
      have H1 : ((laws_markHex.f kj11 t206 t207 1).bind fun bt221 => (if bt221.1 < 0 then (laws_FnExactHexBridges.j1 kj11 a1 t202 t205 t211 true a0_0 l0_1) else ((laws_eqInt64SS.f kj11 t211 t202).bind fun t223 => (if t223 = true then (laws_FnExactHexBridges.j1 kj11 a1 t202 t205 t211 (t214 != t205) a0_0 l0_1) else (laws_FnExactHexBridges.j1 kj11 a1 t202 t205 t211 true a0_0 l0_1))))) = some r := by rw [if_pos rfl] at H; exact H
      clear H
      have H := H1
      clear H1
      replace H := Option.bind_eq_some_iff.mp H
      obtain ⟨⟨t221, t222⟩, A380, H⟩ := H
      replace H : (if t221 < 0 then (laws_FnExactHexBridges.j1 kj11 a1 t202 t205 t211 true a0_0 l0_1) else ((laws_eqInt64SS.f kj11 t211 t202).bind fun t223 => (if t223 = true then (laws_FnExactHexBridges.j1 kj11 a1 t202 t205 t211 (t214 != t205) a0_0 l0_1) else (laws_FnExactHexBridges.j1 kj11 a1 t202 t205 t211 true a0_0 l0_1)))) = some r := H
      have A38 := Aside0.mk A380
      clear A380
      have HC39 := Aside0.mk H
      clear H
      try go_wp2
      have n0_ := Aside0.mk (Kd.S_drew HO_6.out)
      have n1_ := Aside0.mk (Kd.S_drew HO_9.out)
      have n2_ := Aside0.mk (Kd.R_drew HO_211001.out)
      have n3_ := Aside0.mk (blk_drew BK196.out)
      have n4_ := Aside0.mk (blk_drew BK210.out)
      have n5_ := Aside0.mk (below_drew1 HB.out)
      clear HO_6
      clear HO_9
      clear HO_211001
      clear BK196
      clear BK210
      clear HB
      have HO_6 := n0_
      have HO_9 := n1_
      have HO_211001 := n2_
      have BK196 := n3_
      have BK210 := n4_
      have HB := n5_
      clear n0_ n1_ n2_ n3_ n4_ n5_
      refine start_ (n := 5) (S := fun w' => w'.cell? ⟨gb210, 0, none⟩ = some (.int .i64 t206) ∧ w'.cell? ⟨gb210, 1, none⟩ = some (.slice Ao25 t207.length co25) ∧ w'.cell? ⟨gb196, 0, none⟩ = some (.int .i64 a0_0) ∧ w'.cell? ⟨gb196, 1, none⟩ = some (.slice A0_1 l0_1.length c0_1)) (ds := []) #[false, false, false, false, false] (by kernel_rfl) rfl rfl ⟨(blk_cell BK210.out 0).trans rfl, (blk_cell BK210.out 1).trans rfl, (blk_cell BK196.out 0).trans rfl, (blk_cell BK196.out 1).trans rfl⟩ (fun hHeld => ?_)
      generalize wc.drew = w40 at HO_6 HO_9 HO_211001 BK196 BK210 HB hHeld ⊢
      refine take_ (i := 0) (N := some 45) (v := ?_) (a' := ?_) #[true, false, false, false, false] rfl rfl (by kernel_rfl) (fun _ _ _ h => h) (Or.inl ⟨by rfl, ?_⟩) hHeld ?_ ?_
      rotate_left
      ·rintro w' ⟨s0, s1, s2, s3⟩
       go_simp
       with_reducible rfl
      rotate_left
      ·simp only [Act.put, List.setIfInBounds_toArray, List.set_cons_zero, List.set_cons_succ, i64_w, i32_w]
       rfl
      refine take_ (i := 1) (N := some 46) (v := ?_) (a' := ?_) #[true, true, false, false, false] rfl rfl (by kernel_rfl) (fun _ _ _ h => h) (Or.inl ⟨by rfl, ?_⟩) hHeld ?_ ?_
      rotate_left
      ·rintro w' ⟨s0, s1, s2, s3⟩
       go_simp
       with_reducible rfl
      rotate_left
      ·simp only [Act.put, List.setIfInBounds_toArray, List.set_cons_zero, List.set_cons_succ, i64_w, i32_w]
       rfl
      refine one_ (i := 2) (N := some 47) #[true, true, true, false, false] rfl rfl (by kernel_rfl) (by decide) (fun K hK => ?_)
      refine goes_ Try.func10 (by kernel_rfl) rfl #[.agg #[.int .i64 a0_0, .slice A0_1 l0_1.length c0_1]] (by rfl) rfl rfl (by (try simp only [List.map_toArray, List.map_cons, List.map_nil]); first | done | rfl | (simp only [List.length_drop, List.length_take]; rfl)) ?_
      with_reducible refine (laws_toHex.calls kj11 a0_0 _ _ l0_1 t216 t217 _ ?side1 ?side2 A35.out).mono ?_
      (case side1 => repeat (first | exact (Kd.C_below HR0_1.out HB.out) | (with_reducible refine Kd.C_alloc ?_ _) | (with_reducible refine Kd.C_drewN ?_ _) | (with_reducible refine Kd.C_drew ?_)))
      (case side2 => exact HC0_1.out)
      rintro e w41 ⟨v218, rfl, ho0, hb⟩
      refine ⟨_, rfl, ?_⟩
      have n0_ := Aside0.mk (Kd.S_elder' (by (with_reducible repeat (first | apply Kd.S_alloc | apply Kd.S_drewN | apply Kd.S_drew)); exact HO_6.out) (Kd.R_base ho0) hb)
      have n1_ := Aside0.mk (Kd.S_elder' (by (with_reducible repeat (first | apply Kd.S_alloc | apply Kd.S_drewN | apply Kd.S_drew)); exact HO_9.out) (Kd.R_base ho0) hb)
      have n2_ := Aside0.mk (Kd.R_elder' (by (with_reducible repeat (first | apply Kd.R_alloc | apply Kd.R_drewN | apply Kd.R_drew)); exact HO_211001.out) (Kd.R_base ho0) hb)
      have n3_ := Aside0.mk (Kd.R_lower (Kd.R_new' ho0 (Kd.R_lt (by (with_reducible repeat (first | apply Kd.R_alloc | apply Kd.R_drewN | apply Kd.R_drew)); exact HO_211001.out))) (below_size (by repeat (first | (with_reducible first | exact HB.out | apply below_alloc | apply pw_below_drewN | apply below_drew1 | refine below_set ?_ GE196.out | refine below_set ?_ GE210.out) | exact HB.out))))
      have n4_ := Aside0.mk (blk_below (g := gb196) (o := .cells #[.int .i64 a0_0, .slice A0_1 l0_1.length c0_1] 24 (0, 0)) (by (with_reducible repeat (first | refine blk_drewN ?_ _ | refine blk_drew ?_ | refine blk_alloc ?_ _)); exact BK196.out) hb)
      have n5_ := Aside0.mk (blk_below (g := gb210) (o := .cells #[.int .i64 t206, .slice Ao25 t207.length co25] 29 (0, 0)) (by (with_reducible repeat (first | refine blk_drewN ?_ _ | refine blk_drew ?_ | refine blk_alloc ?_ _)); exact BK210.out) hb)
      have n6_ := Aside0.mk (below_step (by repeat (first | (with_reducible first | exact HB.out | apply below_alloc | apply pw_below_drewN | apply below_drew1 | refine below_set ?_ GE196.out | refine below_set ?_ GE210.out) | exact HB.out)) hb)
      clear HO_6
      clear HO_9
      clear HO_211001
      clear BK196
      clear BK210
      clear HB
      have HO_6 := n0_
      have HO_9 := n1_
      have HO_211001 := n2_
      have HO219 := n3_
      have BK196 := n4_
      have BK210 := n5_
      have HB := n6_
      clear n0_ n1_ n2_ n3_ n4_ n5_ n6_
      (try clear hb)
      (try clear hb2)
      (try clear hk)
      (try clear hi)
      (try clear ho0)
      obtain ⟨Ao42, co42, eo42⟩ := Kd.R_slice HO219.out
      (first | subst eo42 | (injection eo42 with f1_ f2_ f3_; have f4_ := f1_.symm; have f5_ := f3_.symm; clear f1_ f2_ f3_; subst f4_; subst f5_))
      refine hK.out _ _ ⟨(blk_cell BK210.out 0).trans rfl, (blk_cell BK210.out 1).trans rfl, (blk_cell BK196.out 0).trans rfl, (blk_cell BK196.out 1).trans rfl⟩ (fun hHeld => ?_)
      clear hK K
      refine norm_ (a' := ?_) ?_ ?_
      rotate_left
      ·show Act.put _ (some 47) _ = _
       simp only [Act.put, List.setIfInBounds_toArray, List.set_cons_zero, List.set_cons_succ, i64_w, i32_w]
       rfl
      refine one_ (i := 3) (N := some 48) #[true, true, true, true, false] rfl rfl (by kernel_rfl) (by decide) (fun K hK => ?_)
      refine goes_ Try.func13 (by kernel_rfl) rfl #[.agg #[.int .i64 t206, .slice Ao25 t207.length co25], .agg #[.int .i64 t216, .slice Ao42 t217.length co42]] (by rfl) rfl rfl (by (try simp only [List.map_toArray, List.map_cons, List.map_nil]); first | done | rfl | (simp only [List.length_drop, List.length_take]; rfl)) ?_
      with_reducible refine (laws_eqHex.calls kj11 t206 _ _ t207 t216 _ _ t217 true _ ?side1 ?side2 ?side3 ?side4 A36.out).mono ?_
      (case side1 => repeat (first | exact (Kd.R_reads' HO_211001.out).2.2 | (with_reducible refine Kd.C_alloc ?_ _) | (with_reducible refine Kd.C_drewN ?_ _) | (with_reducible refine Kd.C_drew ?_)))
      (case side2 => exact (Kd.R_reads' HO_211001.out).2.1)
      (case side3 => repeat (first | exact (Kd.R_reads' HO219.out).2.2 | (with_reducible refine Kd.C_alloc ?_ _) | (with_reducible refine Kd.C_drewN ?_ _) | (with_reducible refine Kd.C_drew ?_)))
      (case side4 => exact (Kd.R_reads' HO219.out).2.1)
      rintro e w43 ⟨rfl, hb⟩
      refine ⟨_, rfl, ?_⟩
      have n0_ := Aside0.mk (Kd.S_below (by (with_reducible repeat (first | apply Kd.S_alloc | apply Kd.S_drewN | apply Kd.S_drew)); exact HO_6.out) hb)
      have n1_ := Aside0.mk (Kd.S_below (by (with_reducible repeat (first | apply Kd.S_alloc | apply Kd.S_drewN | apply Kd.S_drew)); exact HO_9.out) hb)
      have n2_ := Aside0.mk (Kd.R_below (by (with_reducible repeat (first | apply Kd.R_alloc | apply Kd.R_drewN | apply Kd.R_drew)); exact HO_211001.out) hb)
      have n3_ := Aside0.mk (Kd.R_below (by (with_reducible repeat (first | apply Kd.R_alloc | apply Kd.R_drewN | apply Kd.R_drew)); exact HO219.out) hb)
      have n4_ := Aside0.mk (blk_below (g := gb196) (o := .cells #[.int .i64 a0_0, .slice A0_1 l0_1.length c0_1] 24 (0, 0)) (by (with_reducible repeat (first | refine blk_drewN ?_ _ | refine blk_drew ?_ | refine blk_alloc ?_ _)); exact BK196.out) hb)
      have n5_ := Aside0.mk (blk_below (g := gb210) (o := .cells #[.int .i64 t206, .slice Ao25 t207.length co25] 29 (0, 0)) (by (with_reducible repeat (first | refine blk_drewN ?_ _ | refine blk_drew ?_ | refine blk_alloc ?_ _)); exact BK210.out) hb)
      have n6_ := Aside0.mk (below_step (by repeat (first | (with_reducible first | exact HB.out | apply below_alloc | apply pw_below_drewN | apply below_drew1 | refine below_set ?_ GE196.out | refine below_set ?_ GE210.out) | exact HB.out)) hb)
      clear HO_6
      clear HO_9
      clear HO_211001
      clear HO219
      clear BK196
      clear BK210
      clear HB
      have HO_6 := n0_
      have HO_9 := n1_
      have HO_211001 := n2_
      have HO219 := n3_
      have BK196 := n4_
      have BK210 := n5_
      have HB := n6_
      clear n0_ n1_ n2_ n3_ n4_ n5_ n6_
      (try clear hb)
      (try clear hb2)
      (try clear hk)
      (try clear hi)
      refine hK.out _ _ ⟨(blk_cell BK210.out 0).trans rfl, (blk_cell BK210.out 1).trans rfl, (blk_cell BK196.out 0).trans rfl, (blk_cell BK196.out 1).trans rfl⟩ (fun hHeld => ?_)
      clear hK K
      refine norm_ (a' := ?_) ?_ ?_
      rotate_left
      ·show Act.put _ (some 48) _ = _
       simp only [Act.put, List.setIfInBounds_toArray, List.set_cons_zero, List.set_cons_succ, i64_w, i32_w]
       rfl
      refine pure_ (i := 4) (N := some 49) (v := ?_) (a' := ?_) #[true, true, true, true, true] rfl rfl (by kernel_rfl) (fun _ _ _ h => h) (Or.inl ⟨by rfl, ?_⟩) ?_ ?_
      rotate_left
      ·intro w'
       go_simp
       with_reducible rfl
      rotate_left
      ·simp only [Act.put, List.setIfInBounds_toArray, List.set_cons_zero, List.set_cons_succ, i64_w, i32_w]
       rfl
      refine done_ (by kernel_rfl) ?_
      have hnb44 := NB210_196.out
      have hnc44 := NB196_210.out
      have hcz45_0 : w43.cell? ⟨gb210, 0, none⟩ = some (.int .i64 t206) := (blk_cell BK210.out 0).trans rfl
      have hcz45_1 : w43.cell? ⟨gb210, 1, none⟩ = some (.slice Ao25 t207.length co25) := (blk_cell BK210.out 1).trans rfl
      have hfz45_0 := blk_frozen BK210.out 0
      have hfz45_1 := blk_frozen BK210.out 1
      go_upto_region 14 with (first | ((with_reducible refine gate_callee (f := 14) rfl ?_); refine goesL_ (some 52) rfl rfl Try.func14 (by kernel_rfl) rfl #[.agg #[.int .i64 t206, .slice Ao25 t207.length co25], .int .i64 1] rfl (by (try simp only [List.map_toArray, List.map_cons, List.map_nil]); first | done | rfl | (simp only [List.length_drop, List.length_take]; rfl)) ?_; (with_reducible refine (laws_markHex.calls kj11 t206 (fun k_ => some k_ = (.slice Ao25 t207.length co25 : Value).ownBlock) (.slice Ao25 t207.length co25) t207 1 t221 t222 w _ ?side1 ?side2 A38.out).mono ?_); (case side1 => repeat (first | (with_reducible first | exact HB.out | apply below_alloc | apply pw_below_drewN | apply below_drew1 | refine below_set ?_ GE196.out | refine below_set ?_ GE210.out) | exact HB.out)); (case side2 => exact Kd.R_tight rfl HO_211001.out); rintro e w46 ⟨rfl, hy0, hb, hkp⟩; refine ⟨_, rfl, ?_⟩; have n0_ := Aside0.mk (Kd.S_mono (ok' := fun k_ => some k_ ≠ (v212 : Value).ownBlock ∧ some k_ ≠ (.slice Ao25 t207.length co25 : Value).ownBlock ∧ some k_ ≠ (.slice Ao42 t217.length co42 : Value).ownBlock ∧ k_ < nq27) (Kd.S_keptB (HO_6.out) hkp (fun k_ hk_ hs_ => (hk_.1.2.1) hs_)) (fun k_ hk_ => ⟨hk_.1.1.1, hk_.1.1.2.1, hk_.1.2, hk_.1.1.2.2⟩)); have n1_ := Aside0.mk (Kd.S_mono (ok' := fun k_ => some k_ ≠ (v203 : Value).ownBlock ∧ some k_ ≠ (.slice Ao25 t207.length co25 : Value).ownBlock ∧ some k_ ≠ (.slice Ao42 t217.length co42 : Value).ownBlock ∧ nq27 ≤ k_) (Kd.S_keptB (HO_9.out) hkp (fun k_ hk_ hs_ => (hk_.1.2.1) hs_)) (fun k_ hk_ => ⟨hk_.1.1.1, hk_.1.1.2.1, hk_.1.2, hk_.1.1.2.2⟩)); have n2_ := Aside0.mk (Kd.R_reok rfl hy0 (fun k_ e_ => HO_211001.out.1 k_ e_)); have n3_ := Aside0.mk (blk_kept (by (with_reducible repeat (first | refine blk_drewN ?_ _ | refine blk_drew ?_ | refine blk_alloc ?_ _)); exact BK196.out) hkp (fun hs_ => (fun e_ => (Kd.R_ne HO_211001.out BK196.out (by decide)) e_) hs_)); have n4_ := Aside0.mk (blk_kept (by (with_reducible repeat (first | refine blk_drewN ?_ _ | refine blk_drew ?_ | refine blk_alloc ?_ _)); exact BK210.out) hkp (fun hs_ => (fun e_ => (Kd.R_ne HO_211001.out BK210.out (by decide)) e_) hs_)); have n5_ := Aside0.mk (Kd.R_mono (ok' := fun k_ => some k_ ≠ (.slice Ao25 t207.length co25 : Value).ownBlock) (Kd.R_keptB (HO219.out) hkp (fun k_ hk_ hs_ => (hk_.2) hs_)) (fun k_ hk_ => hk_.1.2)); have n6_ := Aside0.mk (hb); clear HO_6; clear HO_9; clear HO_211001; clear BK196; clear BK210; clear HO219; clear HB; have HO_6 := n0_; have HO_9 := n1_; have HO_211001 := n2_; have BK196 := n3_; have BK210 := n4_; have HO219 := n5_; have HB := n6_; clear n0_ n1_ n2_ n3_ n4_ n5_ n6_; (try clear hb); (try clear hkp); (try clear hy0)))
      (try simp only [Act.put, List.setIfInBounds_toArray, List.set_cons_zero, List.set_cons_succ])
      go_cut [65] (fun v65 wc => ∃ (kq : Nat) (x65_38 : Bool), v65 = .bool x65_38 ∧ Aside0 (laws_FnExactHexBridges.j1 kq a1 t202 t205 t211 x65_38 a0_0 l0_1 = some r) ∧ Aside0 (kq ≤ kj11) ∧ Aside0 (Kd.S (Kd.slice 2 (Kd.int .i64)) 22 wc w.heap.size (fun k_ => some k_ ≠ (v212 : Value).ownBlock ∧ some k_ ≠ ((.slice Ao25 t207.length co25) : Value).ownBlock ∧ k_ < nq27) v203 t202) ∧ Aside0 (Kd.S (Kd.slice 2 (Kd.int .i64)) 22 wc w.heap.size (fun k_ => some k_ ≠ (v203 : Value).ownBlock ∧ some k_ ≠ ((.slice Ao25 t207.length co25) : Value).ownBlock ∧ nq27 ≤ k_) v212 t211) ∧ Aside0 (Kd.R (Kd.int .i64) 2 wc w.heap.size (fun _ => True) (.slice Ao25 t207.length co25) t222) ∧ Aside0 (wc.heap[gb196]? = some (.cells #[.int .i64 a0_0, (.slice A0_1 l0_1.length c0_1)] 24 (0, 0))) ∧ Aside0 (wc.heap[gb210]? = some (.cells #[.int .i64 t206, (.slice Ao25 t207.length co25)] 29 (0, 0))) ∧ Aside0 (Below w.heap.size w wc))
      case first =>
       have H := HC39.out
       clear HC39
       by_cases c47 : t221 < 0
       ·rw [if_pos c47] at H
        have c47b0 : decide (t221 < 0) = true := decide_eq_true c47
        clear c47
        (first | rw [c47b0] | (simp only [i64_w, i32_w]; rw [c47b0]) | skip)
        have H' := Aside0.mk H
        clear H
        go_wp2
        go_meet
        case rel => exact ⟨_, (true), (by first | rfl | (simp; done) | (simp [*]; done)), H', ⟨by have := HJ11.out; first | omega | exact Nat.le_refl _⟩, ⟨by (with_reducible repeat (first | apply Kd.S_alloc | apply Kd.S_drewN | apply Kd.S_drew)); exact Kd.S_mono HO_6.out (fun _ hk => ⟨hk.1, ⟨hk.2.1, hk.2.2.2⟩⟩)⟩, ⟨by (with_reducible repeat (first | apply Kd.S_alloc | apply Kd.S_drewN | apply Kd.S_drew)); exact Kd.S_mono HO_9.out (fun _ hk => ⟨hk.1, ⟨hk.2.1, hk.2.2.2⟩⟩)⟩, ⟨by (with_reducible repeat (first | apply Kd.R_alloc | apply Kd.R_drewN | apply Kd.R_drew)); exact Kd.R_mono HO_211001.out (fun _ hk => trivial)⟩, ⟨by (with_reducible repeat (first | refine blk_drewN ?_ _ | refine blk_drew ?_ | refine blk_alloc ?_ _)); exact BK196.out⟩, ⟨by (with_reducible repeat (first | refine blk_drewN ?_ _ | refine blk_drew ?_ | refine blk_alloc ?_ _)); exact BK210.out⟩, ⟨by repeat (first | (with_reducible first | exact HB.out | apply below_alloc | apply pw_below_drewN | apply below_drew1 | refine below_set ?_ GE196.out | refine below_set ?_ GE210.out) | exact HB.out)⟩⟩
       ·rw [if_neg c47] at H
        have c47b0 : decide (t221 < 0) = false := decide_eq_false c47
        clear c47
        (first | rw [c47b0] | (simp only [i64_w, i32_w]; rw [c47b0]) | skip)
        replace H := Option.bind_eq_some_iff.mp H
        obtain ⟨t223, A480, H⟩ := H
        replace H : (if t223 = true then (laws_FnExactHexBridges.j1 kj11 a1 t202 t205 t211 (t214 != t205) a0_0 l0_1) else (laws_FnExactHexBridges.j1 kj11 a1 t202 t205 t211 true a0_0 l0_1)) = some r := H
        have A48 := Aside0.mk A480
        clear A480
        by_cases c49 : t223 = true
        ·subst c49
         have H1 : (laws_FnExactHexBridges.j1 kj11 a1 t202 t205 t211 (t214 != t205) a0_0 l0_1) = some r := by rw [if_pos rfl] at H; exact H
         clear H
         have H := H1
         clear H1
         have H' := Aside0.mk H
         clear H
         obtain ⟨Ao50, co50, eo50⟩ := Kd.S_slice HO_9.out
         subst eo50
         obtain ⟨Ao51, co51, eo51⟩ := Kd.S_slice HO_6.out
         subst eo51
         go_wp2_with (first | (go_at_call 12; (with_reducible refine (laws_eqInt64SS.calls kj11 _ _ t211 _ _ t202 true _ ?side1 ?side2 ?side3 ?side4 A48.out).mono ?_); (case side1 => repeat (first | exact (Kd.S_reads' HO_9.out).2.2 | (with_reducible refine Kd.C_alloc ?_ _) | (with_reducible refine Kd.C_drewN ?_ _) | (with_reducible refine Kd.C_drew ?_))); (case side2 => exact (Kd.S_reads' HO_9.out).2.1); (case side3 => repeat (first | exact (Kd.S_reads' HO_6.out).2.2 | (with_reducible refine Kd.C_alloc ?_ _) | (with_reducible refine Kd.C_drewN ?_ _) | (with_reducible refine Kd.C_drew ?_))); (case side4 => exact (Kd.S_reads' HO_6.out).2.1); rintro e w' ⟨rfl, ⟨nd, rfl⟩⟩))
         go_meet
         case rel => exact ⟨_, ((t214 != t205)), (by first | rfl | (simp; done) | (simp [*]; done)), H', ⟨by have := HJ11.out; first | omega | exact Nat.le_refl _⟩, ⟨by (with_reducible repeat (first | apply Kd.S_alloc | apply Kd.S_drewN | apply Kd.S_drew)); exact Kd.S_mono HO_6.out (fun _ hk => ⟨hk.1, ⟨hk.2.1, hk.2.2.2⟩⟩)⟩, ⟨by (with_reducible repeat (first | apply Kd.S_alloc | apply Kd.S_drewN | apply Kd.S_drew)); exact Kd.S_mono HO_9.out (fun _ hk => ⟨hk.1, ⟨hk.2.1, hk.2.2.2⟩⟩)⟩, ⟨by (with_reducible repeat (first | apply Kd.R_alloc | apply Kd.R_drewN | apply Kd.R_drew)); exact Kd.R_mono HO_211001.out (fun _ hk => trivial)⟩, ⟨by (with_reducible repeat (first | refine blk_drewN ?_ _ | refine blk_drew ?_ | refine blk_alloc ?_ _)); exact BK196.out⟩, ⟨by (with_reducible repeat (first | refine blk_drewN ?_ _ | refine blk_drew ?_ | refine blk_alloc ?_ _)); exact BK210.out⟩, ⟨by repeat (first | (with_reducible first | exact HB.out | apply below_alloc | apply pw_below_drewN | apply below_drew1 | refine below_set ?_ GE196.out | refine below_set ?_ GE210.out) | exact HB.out)⟩⟩
        ·replace c49 := Bool.eq_false_iff.mpr c49
         subst c49
         have H1 : (laws_FnExactHexBridges.j1 kj11 a1 t202 t205 t211 true a0_0 l0_1) = some r := by rw [if_neg (show ¬ (false = true) by decide)] at H; exact H
         clear H
         have H := H1
         clear H1
         have H' := Aside0.mk H
         clear H
         obtain ⟨Ao52, co52, eo52⟩ := Kd.S_slice HO_9.out
         subst eo52
         obtain ⟨Ao53, co53, eo53⟩ := Kd.S_slice HO_6.out
         subst eo53
         go_wp2_with (first | (go_at_call 12; (with_reducible refine (laws_eqInt64SS.calls kj11 _ _ t211 _ _ t202 false _ ?side1 ?side2 ?side3 ?side4 A48.out).mono ?_); (case side1 => repeat (first | exact (Kd.S_reads' HO_9.out).2.2 | (with_reducible refine Kd.C_alloc ?_ _) | (with_reducible refine Kd.C_drewN ?_ _) | (with_reducible refine Kd.C_drew ?_))); (case side2 => exact (Kd.S_reads' HO_9.out).2.1); (case side3 => repeat (first | exact (Kd.S_reads' HO_6.out).2.2 | (with_reducible refine Kd.C_alloc ?_ _) | (with_reducible refine Kd.C_drewN ?_ _) | (with_reducible refine Kd.C_drew ?_))); (case side4 => exact (Kd.S_reads' HO_6.out).2.1); rintro e w' ⟨rfl, ⟨nd, rfl⟩⟩))
         go_meet
         case rel => exact ⟨_, (true), (by first | rfl | (simp; done) | (simp [*]; done)), H', ⟨by have := HJ11.out; first | omega | exact Nat.le_refl _⟩, ⟨by (with_reducible repeat (first | apply Kd.S_alloc | apply Kd.S_drewN | apply Kd.S_drew)); exact Kd.S_mono HO_6.out (fun _ hk => ⟨hk.1, ⟨hk.2.1, hk.2.2.2⟩⟩)⟩, ⟨by (with_reducible repeat (first | apply Kd.S_alloc | apply Kd.S_drewN | apply Kd.S_drew)); exact Kd.S_mono HO_9.out (fun _ hk => ⟨hk.1, ⟨hk.2.1, hk.2.2.2⟩⟩)⟩, ⟨by (with_reducible repeat (first | apply Kd.R_alloc | apply Kd.R_drewN | apply Kd.R_drew)); exact Kd.R_mono HO_211001.out (fun _ hk => trivial)⟩, ⟨by (with_reducible repeat (first | refine blk_drewN ?_ _ | refine blk_drew ?_ | refine blk_alloc ?_ _)); exact BK196.out⟩, ⟨by (with_reducible repeat (first | refine blk_drewN ?_ _ | refine blk_drew ?_ | refine blk_alloc ?_ _)); exact BK210.out⟩, ⟨by repeat (first | (with_reducible first | exact HB.out | apply below_alloc | apply pw_below_drewN | apply below_drew1 | refine below_set ?_ GE196.out | refine below_set ?_ GE210.out) | exact HB.out)⟩⟩
      case rest =>
       clear HC39
       try clear c1
       try clear c2
       try clear p2
       try clear q2
       try clear c3
       try clear c4
       try clear c4b0
       try clear c8
       try clear c9
       try clear c10
       try clear c11
       try clear c12
       try clear c13
       try clear c14
       try clear c23
       try clear q27
       try clear c29
       try clear c34
       try clear c37
       try clear c44
       try clear c47
       try clear c47b0
       try clear c49
       try clear hcz14_0
       try clear hcz14_1
       try clear hcz16_0
       try clear hcz16_1
       try clear hcz20_0
       try clear hcz20_1
       try clear hcz24_0
       try clear hcz24_1
       try clear hcz45_0
       try clear hcz45_1
       try clear hcz6_0
       try clear hcz6_1
       try clear hfz14_0
       try clear hfz14_1
       try clear hfz16_0
       try clear hfz16_1
       try clear hfz20_0
       try clear hfz20_1
       try clear hfz24_0
       try clear hfz24_1
       try clear hfz45_0
       try clear hfz45_1
       try clear hfz6_0
       try clear hfz6_1
       try clear p2
       try clear q2
       try clear q27
       obtain ⟨kq, x65_38, rfl, HA, HJ38, HO_6, HO_9, HO_211001, BK196, BK210, HB⟩ := hcut
       have hl211001_38 := (Kd.R_reads' HO_211001.out).1
       rw [hl211001_38] at HO_211001
       (try simp only [hl211001_38])
       (try simp only [hl211001_38] at BK196)
       (try simp only [hl211001_38] at BK210)
       (try simp only [hl211001_38] at HO_6)
       (try simp only [hl211001_38] at HO_9)
       cases kq with
       | zero => exact absurd HA.out (by simp [laws_FnExactHexBridges.j1])
       | succ kj38 =>
        have H := HA.out
        clear HA
        simp only [laws_FnExactHexBridges.j1] at H
        by_cases c54 : x65_38 = true
        ·subst c54
         have H1 : (some false) = some r := by rw [if_pos rfl] at H; exact H
         clear H
         have H := H1
         clear H1
         obtain rfl := Option.some.inj H
         go_wp2
         go_ret
         exact ⟨by first | rfl | (simp [errW_none, errW_some] <;> rfl) | (simp [*, errW_none, errW_some] <;> rfl), by repeat (first | (with_reducible first | exact HB.out | apply below_alloc | apply pw_below_drewN | apply below_drew1 | refine below_set ?_ GE196.out | refine below_set ?_ GE210.out) | exact HB.out)⟩
        ·replace c54 := Bool.eq_false_iff.mpr c54
         subst c54
         have H1 : ((laws_markInt64SS.f kj38 t211 1).bind fun bt224 => ((laws_heldInt64SS.f kj38 bt224.2 1).bind fun t226 => (if t226 < 0 then (some false) else (if t226 = bt224.1 then ((laws_toHex.f kj38 a0_0 l0_1).bind fun bt227 => ((impl_HexBridges.f kj38 bt227.1 bt227.2 a1).bind fun bt231 => ((laws_eqInt64SS.f kj38 bt231.1 t202).bind fun t235 => (if t235 = true then (laws_FnExactHexBridges.j2 kj38 bt224.2 bt224.1 (bt231.2 != t205)) else (laws_FnExactHexBridges.j2 kj38 bt224.2 bt224.1 true))))) else (some false))))) = some r := by rw [if_neg (show ¬ (false = true) by decide)] at H; exact H
         clear H
         have H := H1
         clear H1
         replace H := Option.bind_eq_some_iff.mp H
         obtain ⟨⟨t224, t225⟩, A550, H⟩ := H
         replace H : ((laws_heldInt64SS.f kj38 t225 1).bind fun t226 => (if t226 < 0 then (some false) else (if t226 = t224 then ((laws_toHex.f kj38 a0_0 l0_1).bind fun bt227 => ((impl_HexBridges.f kj38 bt227.1 bt227.2 a1).bind fun bt231 => ((laws_eqInt64SS.f kj38 bt231.1 t202).bind fun t235 => (if t235 = true then (laws_FnExactHexBridges.j2 kj38 t225 t224 (bt231.2 != t205)) else (laws_FnExactHexBridges.j2 kj38 t225 t224 true))))) else (some false)))) = some r := H
         have A55 := Aside0.mk A550
         clear A550
         replace H := Option.bind_eq_some_iff.mp H
         obtain ⟨t226, A560, H⟩ := H
         replace H : (if t226 < 0 then (some false) else (if t226 = t224 then ((laws_toHex.f kj38 a0_0 l0_1).bind fun bt227 => ((impl_HexBridges.f kj38 bt227.1 bt227.2 a1).bind fun bt231 => ((laws_eqInt64SS.f kj38 bt231.1 t202).bind fun t235 => (if t235 = true then (laws_FnExactHexBridges.j2 kj38 t225 t224 (bt231.2 != t205)) else (laws_FnExactHexBridges.j2 kj38 t225 t224 true))))) else (some false))) = some r := H
         have A56 := Aside0.mk A560
         clear A560
         by_cases c57 : t226 < 0
         ·rw [if_pos c57] at H
          have c57b0 : decide (t226 < 0) = true := decide_eq_true c57
          clear c57
          obtain rfl := Option.some.inj H
          obtain ⟨Ao58, co58, eo58⟩ := Kd.S_slice HO_9.out
          subst eo58
          go_wp2_with (first | ((with_reducible refine gate_callee (f := 15) rfl ?_); refine goesL_ (some 68) rfl rfl Try.func15 (by kernel_rfl) rfl #[.slice Ao58 t211.length co58, .int .i64 1] rfl (by (try simp only [List.map_toArray, List.map_cons, List.map_nil]); first | done | rfl | (simp only [List.length_drop, List.length_take]; rfl)) ?_; (with_reducible refine (laws_markInt64SS.calls kj38 (fun k_ => ownS (Kd.slice 2 (Kd.int .i64)) 22 wc (fun k_ => (some k_ ≠ (v203 : Value).ownBlock ∧ (some k_ ≠ (.slice Ao25 t222.length co25 : Value).ownBlock ∧ nq27 ≤ k_))) k_) (.slice Ao58 t211.length co58) t211 1 t224 t225 w _ ?side1 ?side2 A55.out).mono ?_); (case side1 => repeat (first | (with_reducible first | exact HB.out | apply below_alloc | apply pw_below_drewN | apply below_drew1 | refine below_set ?_ GE196.out | refine below_set ?_ GE210.out) | exact HB.out)); (case side2 => exact S_ownS (HO_9.out)); rintro e w59 ⟨rfl, hy0, hb, hkp⟩; refine ⟨_, rfl, ?_⟩; have n0_ := Aside0.mk (Kd.S_mono (ok' := fun k_ => some k_ ≠ (.slice Ao58 t211.length co58 : Value).ownBlock ∧ some k_ ≠ (.slice Ao25 t222.length co25 : Value).ownBlock ∧ k_ < nq27) (Kd.S_keptB ((Kd.S_mono (ok' := fun k_ => (some k_ ≠ (.slice Ao58 t211.length co58 : Value).ownBlock ∧ (some k_ ≠ (.slice Ao25 t222.length co25 : Value).ownBlock ∧ k_ < nq27)) ∧ ¬ ownS (Kd.slice 2 (Kd.int .i64)) 22 wc (fun k_ => (some k_ ≠ (v203 : Value).ownBlock ∧ (some k_ ≠ (.slice Ao25 t222.length co25 : Value).ownBlock ∧ nq27 ≤ k_))) k_) HO_6.out (fun k_ hk => ⟨hk, fun hp_ => Nat.not_lt.2 (hp_.1.2.2) (hk.2.2)⟩))) hkp (fun k_ hk_ hs_ => (hk_.2) hs_)) (fun k_ hk_ => ⟨hk_.1.1.1, hk_.1.1.2.1, hk_.1.1.2.2⟩)); have n1_ := Aside0.mk (Kd.S_mono hy0 (fun _ h_ => h_.1)); have n2_ := Aside0.mk (Kd.R_mono (ok' := fun k_ => True) (Kd.R_keptB ((Kd.R_mono (ok' := fun k_ => True ∧ ¬ ownS (Kd.slice 2 (Kd.int .i64)) 22 wc (fun k_ => (some k_ ≠ (v203 : Value).ownBlock ∧ (some k_ ≠ (.slice Ao25 t222.length co25 : Value).ownBlock ∧ nq27 ≤ k_))) k_) (Kd.R_tight2 rfl HO_211001.out) (fun k_ hk => ⟨hk.2, fun hp_ => (hp_.1.2.1) hk.1⟩))) hkp (fun k_ hk_ hs_ => (hk_.2) hs_)) (fun k_ hk_ => trivial)); have n3_ := Aside0.mk (blk_kept (by (with_reducible repeat (first | refine blk_drewN ?_ _ | refine blk_drew ?_ | refine blk_alloc ?_ _)); exact BK196.out) hkp (fun hs_ => (fun e_ => ownS_not e_ BK196.out (by decide)) hs_)); have n4_ := Aside0.mk (blk_kept (by (with_reducible repeat (first | refine blk_drewN ?_ _ | refine blk_drew ?_ | refine blk_alloc ?_ _)); exact BK210.out) hkp (fun hs_ => (fun e_ => ownS_not e_ BK210.out (by decide)) hs_)); have n5_ := Aside0.mk (hb); clear HO_6; clear HO_9; clear HO_211001; clear BK196; clear BK210; clear HB; have HO_6 := n0_; have HO_9 := n1_; have HO_211001 := n2_; have BK196 := n3_; have BK210 := n4_; have HB := n5_; clear n0_ n1_ n2_ n3_ n4_ n5_; (try clear hb); (try clear hkp); (try clear hy0)) | ((with_reducible refine gate_callee (f := 16) rfl ?_); refine goesL_ (some 71) rfl rfl Try.func16 (by kernel_rfl) rfl #[.slice Ao58 t225.length co58, .int .i64 1] rfl (by (try simp only [List.map_toArray, List.map_cons, List.map_nil]); first | done | (rw [show t225.length = t211.length from (Kd.S_reads' HO_9.out).1.symm] <;> rfl) | rfl | (simp only [List.length_drop, List.length_take]; rfl)) ?_; (with_reducible refine (laws_heldInt64SS.calls kj38 _ _ t225 1 t226 _ ?side1 ?side2 A56.out).mono ?_); (case side1 => repeat (first | exact (Kd.S_reads' HO_9.out).2.2 | (with_reducible refine Kd.C_alloc ?_ _) | (with_reducible refine Kd.C_drewN ?_ _) | (with_reducible refine Kd.C_drew ?_))); (case side2 => rw [show t225.length = t211.length from (Kd.S_reads' HO_9.out).1.symm]; exact (Kd.S_reads' HO_9.out).2.1); rintro e w' ⟨rfl, ⟨nd, rfl⟩⟩; refine ⟨_, rfl, ?_⟩))
          go_ret
          exact ⟨by first | rfl | (simp [errW_none, errW_some] <;> rfl) | (simp [*, errW_none, errW_some] <;> rfl), by repeat (first | (with_reducible first | exact HB.out | apply below_alloc | apply pw_below_drewN | apply below_drew1 | refine below_set ?_ GE196.out | refine below_set ?_ GE210.out) | exact HB.out)⟩
         ·rw [if_neg c57] at H
          have c57b0 : decide (t226 < 0) = false := decide_eq_false c57
          clear c57
          by_cases c60 : t226 = t224
          ·rw [if_pos c60] at H
           have c60b0 : (t226 == t224) = true := beq_iff_eq.mpr c60
           have c60b1 : (t226 != t224) = false := bne_eq_false_iff_eq.mpr c60
           clear c60
           replace H := Option.bind_eq_some_iff.mp H
           obtain ⟨⟨t227, t228⟩, A610, H⟩ := H
           replace H : ((impl_HexBridges.f kj38 t227 t228 a1).bind fun bt231 => ((laws_eqInt64SS.f kj38 bt231.1 t202).bind fun t235 => (if t235 = true then (laws_FnExactHexBridges.j2 kj38 t225 t224 (bt231.2 != t205)) else (laws_FnExactHexBridges.j2 kj38 t225 t224 true)))) = some r := H
           have A61 := Aside0.mk A610
           clear A610
           replace H := Option.bind_eq_some_iff.mp H
           obtain ⟨⟨t231, t234⟩, A620, H⟩ := H
           replace H : ((laws_eqInt64SS.f kj38 t231 t202).bind fun t235 => (if t235 = true then (laws_FnExactHexBridges.j2 kj38 t225 t224 (t234 != t205)) else (laws_FnExactHexBridges.j2 kj38 t225 t224 true))) = some r := H
           have A62 := Aside0.mk A620
           clear A620
           have HC63 := Aside0.mk H
           clear H
           obtain ⟨Ao64, co64, eo64⟩ := Kd.S_slice HO_9.out
           subst eo64
           go_upto_region 25 with (first | ((with_reducible refine gate_callee (f := 15) rfl ?_); refine goesL_ (some 68) rfl rfl Try.func15 (by kernel_rfl) rfl #[.slice Ao64 t211.length co64, .int .i64 1] rfl (by (try simp only [List.map_toArray, List.map_cons, List.map_nil]); first | done | rfl | (simp only [List.length_drop, List.length_take]; rfl)) ?_; (with_reducible refine (laws_markInt64SS.calls kj38 (fun k_ => ownS (Kd.slice 2 (Kd.int .i64)) 22 wc (fun k_ => (some k_ ≠ (v203 : Value).ownBlock ∧ (some k_ ≠ (.slice Ao25 t222.length co25 : Value).ownBlock ∧ nq27 ≤ k_))) k_) (.slice Ao64 t211.length co64) t211 1 t224 t225 w _ ?side1 ?side2 A55.out).mono ?_); (case side1 => repeat (first | (with_reducible first | exact HB.out | apply below_alloc | apply pw_below_drewN | apply below_drew1 | refine below_set ?_ GE196.out | refine below_set ?_ GE210.out) | exact HB.out)); (case side2 => exact S_ownS (HO_9.out)); rintro e w65 ⟨rfl, hy0, hb, hkp⟩; refine ⟨_, rfl, ?_⟩; have n0_ := Aside0.mk (Kd.S_mono (ok' := fun k_ => some k_ ≠ (.slice Ao64 t211.length co64 : Value).ownBlock ∧ some k_ ≠ (.slice Ao25 t222.length co25 : Value).ownBlock ∧ k_ < nq27) (Kd.S_keptB ((Kd.S_mono (ok' := fun k_ => (some k_ ≠ (.slice Ao64 t211.length co64 : Value).ownBlock ∧ (some k_ ≠ (.slice Ao25 t222.length co25 : Value).ownBlock ∧ k_ < nq27)) ∧ ¬ ownS (Kd.slice 2 (Kd.int .i64)) 22 wc (fun k_ => (some k_ ≠ (v203 : Value).ownBlock ∧ (some k_ ≠ (.slice Ao25 t222.length co25 : Value).ownBlock ∧ nq27 ≤ k_))) k_) HO_6.out (fun k_ hk => ⟨hk, fun hp_ => Nat.not_lt.2 (hp_.1.2.2) (hk.2.2)⟩))) hkp (fun k_ hk_ hs_ => (hk_.2) hs_)) (fun k_ hk_ => ⟨hk_.1.1.1, hk_.1.1.2.1, hk_.1.1.2.2⟩)); have n1_ := Aside0.mk (Kd.S_mono hy0 (fun _ h_ => h_.1)); have n2_ := Aside0.mk (Kd.R_mono (ok' := fun k_ => True) (Kd.R_keptB ((Kd.R_mono (ok' := fun k_ => True ∧ ¬ ownS (Kd.slice 2 (Kd.int .i64)) 22 wc (fun k_ => (some k_ ≠ (v203 : Value).ownBlock ∧ (some k_ ≠ (.slice Ao25 t222.length co25 : Value).ownBlock ∧ nq27 ≤ k_))) k_) (Kd.R_tight2 rfl HO_211001.out) (fun k_ hk => ⟨hk.2, fun hp_ => (hp_.1.2.1) hk.1⟩))) hkp (fun k_ hk_ hs_ => (hk_.2) hs_)) (fun k_ hk_ => trivial)); have n3_ := Aside0.mk (blk_kept (by (with_reducible repeat (first | refine blk_drewN ?_ _ | refine blk_drew ?_ | refine blk_alloc ?_ _)); exact BK196.out) hkp (fun hs_ => (fun e_ => ownS_not e_ BK196.out (by decide)) hs_)); have n4_ := Aside0.mk (blk_kept (by (with_reducible repeat (first | refine blk_drewN ?_ _ | refine blk_drew ?_ | refine blk_alloc ?_ _)); exact BK210.out) hkp (fun hs_ => (fun e_ => ownS_not e_ BK210.out (by decide)) hs_)); have n5_ := Aside0.mk (hb); clear HO_6; clear HO_9; clear HO_211001; clear BK196; clear BK210; clear HB; have HO_6 := n0_; have HO_9 := n1_; have HO_211001 := n2_; have BK196 := n3_; have BK210 := n4_; have HB := n5_; clear n0_ n1_ n2_ n3_ n4_ n5_; (try clear hb); (try clear hkp); (try clear hy0)) | ((with_reducible refine gate_callee (f := 16) rfl ?_); refine goesL_ (some 71) rfl rfl Try.func16 (by kernel_rfl) rfl #[.slice Ao64 t225.length co64, .int .i64 1] rfl (by (try simp only [List.map_toArray, List.map_cons, List.map_nil]); first | done | (rw [show t225.length = t211.length from (Kd.S_reads' HO_9.out).1.symm] <;> rfl) | rfl | (simp only [List.length_drop, List.length_take]; rfl)) ?_; (with_reducible refine (laws_heldInt64SS.calls kj38 _ _ t225 1 t226 _ ?side1 ?side2 A56.out).mono ?_); (case side1 => repeat (first | exact (Kd.S_reads' HO_9.out).2.2 | (with_reducible refine Kd.C_alloc ?_ _) | (with_reducible refine Kd.C_drewN ?_ _) | (with_reducible refine Kd.C_drew ?_))); (case side2 => rw [show t225.length = t211.length from (Kd.S_reads' HO_9.out).1.symm]; exact (Kd.S_reads' HO_9.out).2.1); rintro e w' ⟨rfl, ⟨nd, rfl⟩⟩; refine ⟨_, rfl, ?_⟩; have hnb66 := NB196_210.out; have hnc66 := NB210_196.out; have hcz67_0 : w65.cell? ⟨gb196, 0, none⟩ = some (.int .i64 a0_0) := (blk_cell BK196.out 0).trans rfl; have hcz67_1 : w65.cell? ⟨gb196, 1, none⟩ = some (.slice A0_1 l0_1.length c0_1) := (blk_cell BK196.out 1).trans rfl; have hfz67_0 := blk_frozen BK196.out 0; have hfz67_1 := blk_frozen BK196.out 1) | ((with_reducible refine gate_callee (f := 10) rfl ?_); refine goesL_ (some 79) rfl rfl Try.func10 (by kernel_rfl) rfl #[.agg #[.int .i64 a0_0, .slice A0_1 l0_1.length c0_1]] rfl (by (try simp only [List.map_toArray, List.map_cons, List.map_nil]); first | done | rfl | (simp only [List.length_drop, List.length_take]; rfl)) ?_; (with_reducible refine (laws_toHex.calls kj38 a0_0 _ _ l0_1 t227 t228 _ ?side1 ?side2 A61.out).mono ?_); (case side1 => repeat (first | exact (Kd.C_below HR0_1.out (by repeat (first | (with_reducible first | exact HB.out | apply below_alloc | apply pw_below_drewN | apply below_drew1 | refine below_set ?_ GE196.out | refine below_set ?_ GE210.out) | exact HB.out))) | (with_reducible refine Kd.C_alloc ?_ _) | (with_reducible refine Kd.C_drewN ?_ _) | (with_reducible refine Kd.C_drew ?_))); (case side2 => exact HC0_1.out); rintro e w68 ⟨v229, rfl, ho0, hb⟩; refine ⟨_, rfl, ?_⟩; have n0_ := Aside0.mk (Kd.S_elder' (by (with_reducible repeat (first | apply Kd.S_alloc | apply Kd.S_drewN | apply Kd.S_drew)); exact HO_6.out) (Kd.R_base ho0) hb); have n1_ := Aside0.mk (Kd.S_elder' (by (with_reducible repeat (first | apply Kd.S_alloc | apply Kd.S_drewN | apply Kd.S_drew)); exact HO_9.out) (Kd.R_base ho0) hb); have n2_ := Aside0.mk (Kd.R_elder' (by (with_reducible repeat (first | apply Kd.R_alloc | apply Kd.R_drewN | apply Kd.R_drew)); exact HO_211001.out) (Kd.R_base ho0) hb); have n3_ := Aside0.mk (Kd.R_lower (Kd.R_new' ho0 (Kd.R_lt (by (with_reducible repeat (first | apply Kd.R_alloc | apply Kd.R_drewN | apply Kd.R_drew)); exact HO_211001.out))) (below_size (by repeat (first | (with_reducible first | exact HB.out | apply below_alloc | apply pw_below_drewN | apply below_drew1 | refine below_set ?_ GE196.out | refine below_set ?_ GE210.out) | exact HB.out)))); have n4_ := Aside0.mk (blk_below (g := gb196) (o := .cells #[.int .i64 a0_0, .slice A0_1 l0_1.length c0_1] 24 (0, 0)) (by (with_reducible repeat (first | refine blk_drewN ?_ _ | refine blk_drew ?_ | refine blk_alloc ?_ _)); exact BK196.out) hb); have n5_ := Aside0.mk (blk_below (g := gb210) (o := .cells #[.int .i64 t206, .slice Ao25 t222.length co25] 29 (0, 0)) (by (with_reducible repeat (first | refine blk_drewN ?_ _ | refine blk_drew ?_ | refine blk_alloc ?_ _)); exact BK210.out) hb); have n6_ := Aside0.mk (below_step (by repeat (first | (with_reducible first | exact HB.out | apply below_alloc | apply pw_below_drewN | apply below_drew1 | refine below_set ?_ GE196.out | refine below_set ?_ GE210.out) | exact HB.out)) hb); clear HO_6; clear HO_9; clear HO_211001; clear BK196; clear BK210; clear HB; have HO_6 := n0_; have HO_9 := n1_; have HO_211001 := n2_; have HO230 := n3_; have BK196 := n4_; have BK210 := n5_; have HB := n6_; clear n0_ n1_ n2_ n3_ n4_ n5_ n6_; (try clear hb); (try clear hb2); (try clear hk); (try clear hi); (try clear ho0); obtain ⟨Ao69, co69, eo69⟩ := Kd.R_slice HO230.out; subst eo69) | ((with_reducible refine gate_callee (f := 11) rfl ?_); refine goesL_ (some 81) rfl rfl Try.func11 (by kernel_rfl) rfl #[.agg #[.int .i64 t227, .slice Ao69 t228.length co69], .int .i64 a1] rfl (by (try simp only [List.map_toArray, List.map_cons, List.map_nil]); first | done | rfl | (simp only [List.length_drop, List.length_take]; rfl)) ?_; (with_reducible refine (impl_HexBridges.calls kj38 t227 _ _ t228 a1 t231 t234 _ ?side1 ?side2 A62.out).mono ?_); (case side1 => repeat (first | exact (Kd.R_reads' HO230.out).2.2 | (with_reducible refine Kd.C_alloc ?_ _) | (with_reducible refine Kd.C_drewN ?_ _) | (with_reducible refine Kd.C_drew ?_))); (case side2 => exact (Kd.R_reads' HO230.out).2.1); rintro e w70 ⟨v232, rfl, ho0, hb⟩; refine ⟨_, rfl, ?_⟩; obtain ⟨nq71, hi⟩ := nq_of hb; have n0_ := Aside0.mk (Kd.S_elder' (S_ltN (by (with_reducible repeat (first | apply Kd.S_alloc | apply Kd.S_drewN | apply Kd.S_drew)); exact HO_6.out) hi) (Kd.S_base ho0) hb); have n1_ := Aside0.mk (Kd.S_elder' (S_ltN (by (with_reducible repeat (first | apply Kd.S_alloc | apply Kd.S_drewN | apply Kd.S_drew)); exact HO_9.out) hi) (Kd.S_base ho0) hb); have n2_ := Aside0.mk (Kd.R_below (by (with_reducible repeat (first | apply Kd.R_alloc | apply Kd.R_drewN | apply Kd.R_drew)); exact HO_211001.out) hb); have n3_ := Aside0.mk (Kd.R_below (by (with_reducible repeat (first | apply Kd.R_alloc | apply Kd.R_drewN | apply Kd.R_drew)); exact HO230.out) hb); have n4_ := Aside0.mk (Kd.S_lower (Kd.S_new' (Kd.S_new' (Kd.S_new' (Kd.S_new' (S_geN ho0 hi) (Kd.S_lt (by (with_reducible repeat (first | apply Kd.S_alloc | apply Kd.S_drewN | apply Kd.S_drew)); exact HO_6.out))) (Kd.S_lt (by (with_reducible repeat (first | apply Kd.S_alloc | apply Kd.S_drewN | apply Kd.S_drew)); exact HO_9.out))) (Kd.R_lt (by (with_reducible repeat (first | apply Kd.R_alloc | apply Kd.R_drewN | apply Kd.R_drew)); exact HO_211001.out))) (Kd.R_lt (by (with_reducible repeat (first | apply Kd.R_alloc | apply Kd.R_drewN | apply Kd.R_drew)); exact HO230.out))) (below_size (by repeat (first | (with_reducible first | exact HB.out | apply below_alloc | apply pw_below_drewN | apply below_drew1 | refine below_set ?_ GE196.out | refine below_set ?_ GE210.out) | exact HB.out)))); have n5_ := Aside0.mk (blk_below (g := gb196) (o := .cells #[.int .i64 a0_0, .slice A0_1 l0_1.length c0_1] 24 (0, 0)) (by (with_reducible repeat (first | refine blk_drewN ?_ _ | refine blk_drew ?_ | refine blk_alloc ?_ _)); exact BK196.out) hb); have n6_ := Aside0.mk (blk_below (g := gb210) (o := .cells #[.int .i64 t206, .slice Ao25 t222.length co25] 29 (0, 0)) (by (with_reducible repeat (first | refine blk_drewN ?_ _ | refine blk_drew ?_ | refine blk_alloc ?_ _)); exact BK210.out) hb); have n7_ := Aside0.mk (below_step (by repeat (first | (with_reducible first | exact HB.out | apply below_alloc | apply pw_below_drewN | apply below_drew1 | refine below_set ?_ GE196.out | refine below_set ?_ GE210.out) | exact HB.out)) hb); clear HO_6; clear HO_9; clear HO_211001; clear HO230; clear BK196; clear BK210; clear HB; have HO_6 := n0_; have HO_9 := n1_; have HO_211001 := n2_; have HO230 := n3_; have HO233 := n4_; have BK196 := n5_; have BK210 := n6_; have HB := n7_; clear n0_ n1_ n2_ n3_ n4_ n5_ n6_ n7_; (try clear hb); (try clear hb2); (try clear hk); (try clear hi); (try clear ho0)))
           (try simp only [Act.put, List.setIfInBounds_toArray, List.set_cons_zero, List.set_cons_succ])
           go_cut [92] (fun v92 wc => ∃ (kq : Nat) (x92_62 : Bool), v92 = .bool x92_62 ∧ Aside0 (laws_FnExactHexBridges.j2 kq t225 t224 x92_62 = some r) ∧ Aside0 (kq ≤ kj38) ∧ Aside0 (Kd.S (Kd.slice 2 (Kd.int .i64)) 22 wc w.heap.size (fun k_ => some k_ ≠ ((.slice Ao25 t222.length co25) : Value).ownBlock ∧ nq27 ≤ k_ ∧ k_ < nq71) (.slice Ao64 t211.length co64) t225) ∧ Aside0 (Kd.R (Kd.int .i64) 2 wc w.heap.size (fun _ => True) (.slice Ao25 t222.length co25) t222) ∧ Aside0 (wc.heap[gb196]? = some (.cells #[.int .i64 a0_0, (.slice A0_1 l0_1.length c0_1)] 24 (0, 0))) ∧ Aside0 (wc.heap[gb210]? = some (.cells #[.int .i64 t206, (.slice Ao25 t222.length co25)] 29 (0, 0))) ∧ Aside0 (Below w.heap.size w wc))
           case first =>
            have H := HC63.out
            clear HC63
            replace H := Option.bind_eq_some_iff.mp H
            obtain ⟨t235, A720, H⟩ := H
            replace H : (if t235 = true then (laws_FnExactHexBridges.j2 kj38 t225 t224 (t234 != t205)) else (laws_FnExactHexBridges.j2 kj38 t225 t224 true)) = some r := H
            have A72 := Aside0.mk A720
            clear A720
            by_cases c73 : t235 = true
            ·subst c73
             have H1 : (laws_FnExactHexBridges.j2 kj38 t225 t224 (t234 != t205)) = some r := by rw [if_pos rfl] at H; exact H
             clear H
             have H := H1
             clear H1
             have H' := Aside0.mk H
             clear H
             obtain ⟨Ao74, co74, eo74⟩ := Kd.S_slice HO233.out
             subst eo74
             obtain ⟨Ao75, co75, eo75⟩ := Kd.S_slice HO_6.out
             subst eo75
             go_wp2_with (first | ((with_reducible refine gate_callee (f := 12) rfl ?_); refine goesL_ (some 86) rfl rfl Try.func12 (by kernel_rfl) rfl #[.slice Ao74 t231.length co74, .slice Ao75 t202.length co75] rfl (by (try simp only [List.map_toArray, List.map_cons, List.map_nil]); first | done | rfl | (simp only [List.length_drop, List.length_take]; rfl)) ?_; (with_reducible refine (laws_eqInt64SS.calls kj38 _ _ t231 _ _ t202 true _ ?side1 ?side2 ?side3 ?side4 A72.out).mono ?_); (case side1 => repeat (first | exact (Kd.S_reads' HO233.out).2.2 | (with_reducible refine Kd.C_alloc ?_ _) | (with_reducible refine Kd.C_drewN ?_ _) | (with_reducible refine Kd.C_drew ?_))); (case side2 => exact (Kd.S_reads' HO233.out).2.1); (case side3 => repeat (first | exact (Kd.S_reads' HO_6.out).2.2 | (with_reducible refine Kd.C_alloc ?_ _) | (with_reducible refine Kd.C_drewN ?_ _) | (with_reducible refine Kd.C_drew ?_))); (case side4 => exact (Kd.S_reads' HO_6.out).2.1); rintro e w' ⟨rfl, ⟨nd, rfl⟩⟩; refine ⟨_, rfl, ?_⟩))
             go_meet
             case rel => exact ⟨_, ((t234 != t205)), (by first | rfl | (simp; done) | (simp [*]; done)), H', ⟨by have := HJ11.out; have := HJ38.out; first | omega | exact Nat.le_refl _⟩, ⟨by (try simp only [hl211001_38]); (with_reducible repeat (first | apply Kd.S_alloc | apply Kd.S_drewN | apply Kd.S_drew)); exact Kd.S_mono HO_9.out (fun _ hk => ⟨hk.1.1.1.2.1, ⟨hk.1.1.1.2.2, hk.1.2⟩⟩)⟩, ⟨by (try simp only [hl211001_38]); (with_reducible repeat (first | apply Kd.R_alloc | apply Kd.R_drewN | apply Kd.R_drew)); exact Kd.R_mono HO_211001.out (fun _ hk => trivial)⟩, ⟨by (try simp only [hl211001_38]); (with_reducible repeat (first | refine blk_drewN ?_ _ | refine blk_drew ?_ | refine blk_alloc ?_ _)); exact BK196.out⟩, ⟨by (try simp only [hl211001_38]); (with_reducible repeat (first | refine blk_drewN ?_ _ | refine blk_drew ?_ | refine blk_alloc ?_ _)); exact BK210.out⟩, ⟨by repeat (first | (with_reducible first | exact HB.out | apply below_alloc | apply pw_below_drewN | apply below_drew1 | refine below_set ?_ GE196.out | refine below_set ?_ GE210.out) | exact HB.out)⟩⟩
            ·replace c73 := Bool.eq_false_iff.mpr c73
             subst c73
             have H1 : (laws_FnExactHexBridges.j2 kj38 t225 t224 true) = some r := by rw [if_neg (show ¬ (false = true) by decide)] at H; exact H
             clear H
             have H := H1
             clear H1
             have H' := Aside0.mk H
             clear H
             obtain ⟨Ao76, co76, eo76⟩ := Kd.S_slice HO233.out
             subst eo76
             obtain ⟨Ao77, co77, eo77⟩ := Kd.S_slice HO_6.out
             subst eo77
             go_wp2_with (first | ((with_reducible refine gate_callee (f := 12) rfl ?_); refine goesL_ (some 86) rfl rfl Try.func12 (by kernel_rfl) rfl #[.slice Ao76 t231.length co76, .slice Ao77 t202.length co77] rfl (by (try simp only [List.map_toArray, List.map_cons, List.map_nil]); first | done | rfl | (simp only [List.length_drop, List.length_take]; rfl)) ?_; (with_reducible refine (laws_eqInt64SS.calls kj38 _ _ t231 _ _ t202 false _ ?side1 ?side2 ?side3 ?side4 A72.out).mono ?_); (case side1 => repeat (first | exact (Kd.S_reads' HO233.out).2.2 | (with_reducible refine Kd.C_alloc ?_ _) | (with_reducible refine Kd.C_drewN ?_ _) | (with_reducible refine Kd.C_drew ?_))); (case side2 => exact (Kd.S_reads' HO233.out).2.1); (case side3 => repeat (first | exact (Kd.S_reads' HO_6.out).2.2 | (with_reducible refine Kd.C_alloc ?_ _) | (with_reducible refine Kd.C_drewN ?_ _) | (with_reducible refine Kd.C_drew ?_))); (case side4 => exact (Kd.S_reads' HO_6.out).2.1); rintro e w' ⟨rfl, ⟨nd, rfl⟩⟩; refine ⟨_, rfl, ?_⟩))
             go_meet
             case rel => exact ⟨_, (true), (by first | rfl | (simp; done) | (simp [*]; done)), H', ⟨by have := HJ11.out; have := HJ38.out; first | omega | exact Nat.le_refl _⟩, ⟨by (try simp only [hl211001_38]); (with_reducible repeat (first | apply Kd.S_alloc | apply Kd.S_drewN | apply Kd.S_drew)); exact Kd.S_mono HO_9.out (fun _ hk => ⟨hk.1.1.1.2.1, ⟨hk.1.1.1.2.2, hk.1.2⟩⟩)⟩, ⟨by (try simp only [hl211001_38]); (with_reducible repeat (first | apply Kd.R_alloc | apply Kd.R_drewN | apply Kd.R_drew)); exact Kd.R_mono HO_211001.out (fun _ hk => trivial)⟩, ⟨by (try simp only [hl211001_38]); (with_reducible repeat (first | refine blk_drewN ?_ _ | refine blk_drew ?_ | refine blk_alloc ?_ _)); exact BK196.out⟩, ⟨by (try simp only [hl211001_38]); (with_reducible repeat (first | refine blk_drewN ?_ _ | refine blk_drew ?_ | refine blk_alloc ?_ _)); exact BK210.out⟩, ⟨by repeat (first | (with_reducible first | exact HB.out | apply below_alloc | apply pw_below_drewN | apply below_drew1 | refine below_set ?_ GE196.out | refine below_set ?_ GE210.out) | exact HB.out)⟩⟩
           case rest =>
            clear HC63
            try clear c1
            try clear c2
            try clear p2
            try clear q2
            try clear c3
            try clear c4
            try clear c4b0
            try clear c5
            try clear c6
            try clear c7
            try clear q7
            try clear c8
            try clear c9
            try clear c10
            try clear c11
            try clear c12
            try clear c13
            try clear c14
            try clear c15
            try clear c16
            try clear c23
            try clear q27
            try clear c29
            try clear c34
            try clear c37
            try clear c44
            try clear c47
            try clear c47b0
            try clear c49
            try clear c54
            try clear c57
            try clear c57b0
            try clear c60
            try clear c60b0
            try clear c60b1
            try clear c66
            try clear q71
            try clear c73
            try clear hcz14_0
            try clear hcz14_1
            try clear hcz16_0
            try clear hcz16_1
            try clear hcz20_0
            try clear hcz20_1
            try clear hcz24_0
            try clear hcz24_1
            try clear hcz45_0
            try clear hcz45_1
            try clear hcz67_0
            try clear hcz67_1
            try clear hcz6_0
            try clear hcz6_1
            try clear hfz14_0
            try clear hfz14_1
            try clear hfz16_0
            try clear hfz16_1
            try clear hfz20_0
            try clear hfz20_1
            try clear hfz24_0
            try clear hfz24_1
            try clear hfz45_0
            try clear hfz45_1
            try clear hfz67_0
            try clear hfz67_1
            try clear hfz6_0
            try clear hfz6_1
            try clear p2
            try clear q2
            try clear q27
            obtain ⟨kq, x92_62, rfl, HA, HJ62, HO_9, HO_211001, BK196, BK210, HB⟩ := hcut
            have hl9_62 := (Kd.S_reads' HO_9.out).1
            rw [hl9_62] at HO_9
            (try simp only [hl9_62])
            (try simp only [hl9_62] at BK196)
            (try simp only [hl9_62] at BK210)
            (try simp only [hl9_62] at HO_211001)
            cases kq with
            | zero => exact absurd HA.out (by simp [laws_FnExactHexBridges.j2])
            | succ kj62 =>
             have H := HA.out
             clear HA
             simp only [laws_FnExactHexBridges.j2] at H
             by_cases c78 : x92_62 = true
             ·subst c78
              have H1 : (some false) = some r := by rw [if_pos rfl] at H; exact H
              clear H
              have H := H1
              clear H1
              obtain rfl := Option.some.inj H
              go_wp2
              go_ret
              exact ⟨by first | rfl | (simp [errW_none, errW_some] <;> rfl) | (simp [*, errW_none, errW_some] <;> rfl), by repeat (first | (with_reducible first | exact HB.out | apply below_alloc | apply pw_below_drewN | apply below_drew1 | refine below_set ?_ GE196.out | refine below_set ?_ GE210.out) | exact HB.out)⟩
             ·replace c78 := Bool.eq_false_iff.mpr c78
              subst c78
              have H1 : ((laws_heldInt64SS.f kj62 t225 1).bind fun t236 => (if t236 < 0 then (some false) else (if t236 = t224 then (some true) else (some false)))) = some r := by rw [if_neg (show ¬ (false = true) by decide)] at H; exact H
              clear H
              have H := H1
              clear H1
              replace H := Option.bind_eq_some_iff.mp H
              obtain ⟨t236, A790, H⟩ := H
              replace H : (if t236 < 0 then (some false) else (if t236 = t224 then (some true) else (some false))) = some r := H
              have A79 := Aside0.mk A790
              clear A790
              by_cases c80 : t236 < 0
              ·rw [if_pos c80] at H
               have c80b0 : decide (t236 < 0) = true := decide_eq_true c80
               clear c80
               obtain rfl := Option.some.inj H
               go_wp2_with (first | ((with_reducible refine gate_callee (f := 16) rfl ?_); refine goesL_ (some 95) rfl rfl Try.func16 (by kernel_rfl) rfl #[.slice Ao64 t225.length co64, .int .i64 1] rfl (by (try simp only [List.map_toArray, List.map_cons, List.map_nil]); first | done | rfl | (simp only [List.length_drop, List.length_take]; rfl)) ?_; (with_reducible refine (laws_heldInt64SS.calls kj62 _ _ t225 1 t236 _ ?side1 ?side2 A79.out).mono ?_); (case side1 => repeat (first | exact (Kd.S_reads' HO_9.out).2.2 | (with_reducible refine Kd.C_alloc ?_ _) | (with_reducible refine Kd.C_drewN ?_ _) | (with_reducible refine Kd.C_drew ?_))); (case side2 => exact (Kd.S_reads' HO_9.out).2.1); rintro e w' ⟨rfl, ⟨nd, rfl⟩⟩; refine ⟨_, rfl, ?_⟩))
               go_ret
               exact ⟨by first | rfl | (simp [errW_none, errW_some] <;> rfl) | (simp [*, errW_none, errW_some] <;> rfl), by repeat (first | (with_reducible first | exact HB.out | apply below_alloc | apply pw_below_drewN | apply below_drew1 | refine below_set ?_ GE196.out | refine below_set ?_ GE210.out) | exact HB.out)⟩
              ·rw [if_neg c80] at H
               have c80b0 : decide (t236 < 0) = false := decide_eq_false c80
               clear c80
               by_cases c81 : t236 = t224
               ·rw [if_pos c81] at H
                have c81b0 : (t236 == t224) = true := beq_iff_eq.mpr c81
                have c81b1 : (t236 != t224) = false := bne_eq_false_iff_eq.mpr c81
                clear c81
                obtain rfl := Option.some.inj H
                go_wp2_with (first | ((with_reducible refine gate_callee (f := 16) rfl ?_); refine goesL_ (some 95) rfl rfl Try.func16 (by kernel_rfl) rfl #[.slice Ao64 t225.length co64, .int .i64 1] rfl (by (try simp only [List.map_toArray, List.map_cons, List.map_nil]); first | done | rfl | (simp only [List.length_drop, List.length_take]; rfl)) ?_; (with_reducible refine (laws_heldInt64SS.calls kj62 _ _ t225 1 t236 _ ?side1 ?side2 A79.out).mono ?_); (case side1 => repeat (first | exact (Kd.S_reads' HO_9.out).2.2 | (with_reducible refine Kd.C_alloc ?_ _) | (with_reducible refine Kd.C_drewN ?_ _) | (with_reducible refine Kd.C_drew ?_))); (case side2 => exact (Kd.S_reads' HO_9.out).2.1); rintro e w' ⟨rfl, ⟨nd, rfl⟩⟩; refine ⟨_, rfl, ?_⟩))
                go_ret
                exact ⟨by first | rfl | (simp [errW_none, errW_some] <;> rfl) | (simp [*, errW_none, errW_some] <;> rfl), by repeat (first | (with_reducible first | exact HB.out | apply below_alloc | apply pw_below_drewN | apply below_drew1 | refine below_set ?_ GE196.out | refine below_set ?_ GE210.out) | exact HB.out)⟩
               ·rw [if_neg c81] at H
                have c81b0 : (t236 == t224) = false := beq_eq_false_iff_ne.mpr c81
                have c81b1 : (t236 != t224) = true := bne_iff_ne.mpr c81
                obtain rfl := Option.some.inj H
                go_wp2_with (first | ((with_reducible refine gate_callee (f := 16) rfl ?_); refine goesL_ (some 95) rfl rfl Try.func16 (by kernel_rfl) rfl #[.slice Ao64 t225.length co64, .int .i64 1] rfl (by (try simp only [List.map_toArray, List.map_cons, List.map_nil]); first | done | rfl | (simp only [List.length_drop, List.length_take]; rfl)) ?_; (with_reducible refine (laws_heldInt64SS.calls kj62 _ _ t225 1 t236 _ ?side1 ?side2 A79.out).mono ?_); (case side1 => repeat (first | exact (Kd.S_reads' HO_9.out).2.2 | (with_reducible refine Kd.C_alloc ?_ _) | (with_reducible refine Kd.C_drewN ?_ _) | (with_reducible refine Kd.C_drew ?_))); (case side2 => exact (Kd.S_reads' HO_9.out).2.1); rintro e w' ⟨rfl, ⟨nd, rfl⟩⟩; refine ⟨_, rfl, ?_⟩))
                go_ret
                exact ⟨by first | rfl | (simp [errW_none, errW_some] <;> rfl) | (simp [*, errW_none, errW_some] <;> rfl), by repeat (first | (with_reducible first | exact HB.out | apply below_alloc | apply pw_below_drewN | apply below_drew1 | refine below_set ?_ GE196.out | refine below_set ?_ GE210.out) | exact HB.out)⟩
          ·rw [if_neg c60] at H
           have c60b0 : (t226 == t224) = false := beq_eq_false_iff_ne.mpr c60
           have c60b1 : (t226 != t224) = true := bne_iff_ne.mpr c60
           obtain rfl := Option.some.inj H
           obtain ⟨Ao82, co82, eo82⟩ := Kd.S_slice HO_9.out
           subst eo82
           go_wp2_with (first | ((with_reducible refine gate_callee (f := 15) rfl ?_); refine goesL_ (some 68) rfl rfl Try.func15 (by kernel_rfl) rfl #[.slice Ao82 t211.length co82, .int .i64 1] rfl (by (try simp only [List.map_toArray, List.map_cons, List.map_nil]); first | done | rfl | (simp only [List.length_drop, List.length_take]; rfl)) ?_; (with_reducible refine (laws_markInt64SS.calls kj38 (fun k_ => ownS (Kd.slice 2 (Kd.int .i64)) 22 wc (fun k_ => (some k_ ≠ (v203 : Value).ownBlock ∧ (some k_ ≠ (.slice Ao25 t222.length co25 : Value).ownBlock ∧ nq27 ≤ k_))) k_) (.slice Ao82 t211.length co82) t211 1 t224 t225 w _ ?side1 ?side2 A55.out).mono ?_); (case side1 => repeat (first | (with_reducible first | exact HB.out | apply below_alloc | apply pw_below_drewN | apply below_drew1 | refine below_set ?_ GE196.out | refine below_set ?_ GE210.out) | exact HB.out)); (case side2 => exact S_ownS (HO_9.out)); rintro e w83 ⟨rfl, hy0, hb, hkp⟩; refine ⟨_, rfl, ?_⟩; have n0_ := Aside0.mk (Kd.S_mono (ok' := fun k_ => some k_ ≠ (.slice Ao82 t211.length co82 : Value).ownBlock ∧ some k_ ≠ (.slice Ao25 t222.length co25 : Value).ownBlock ∧ k_ < nq27) (Kd.S_keptB ((Kd.S_mono (ok' := fun k_ => (some k_ ≠ (.slice Ao82 t211.length co82 : Value).ownBlock ∧ (some k_ ≠ (.slice Ao25 t222.length co25 : Value).ownBlock ∧ k_ < nq27)) ∧ ¬ ownS (Kd.slice 2 (Kd.int .i64)) 22 wc (fun k_ => (some k_ ≠ (v203 : Value).ownBlock ∧ (some k_ ≠ (.slice Ao25 t222.length co25 : Value).ownBlock ∧ nq27 ≤ k_))) k_) HO_6.out (fun k_ hk => ⟨hk, fun hp_ => Nat.not_lt.2 (hp_.1.2.2) (hk.2.2)⟩))) hkp (fun k_ hk_ hs_ => (hk_.2) hs_)) (fun k_ hk_ => ⟨hk_.1.1.1, hk_.1.1.2.1, hk_.1.1.2.2⟩)); have n1_ := Aside0.mk (Kd.S_mono hy0 (fun _ h_ => h_.1)); have n2_ := Aside0.mk (Kd.R_mono (ok' := fun k_ => True) (Kd.R_keptB ((Kd.R_mono (ok' := fun k_ => True ∧ ¬ ownS (Kd.slice 2 (Kd.int .i64)) 22 wc (fun k_ => (some k_ ≠ (v203 : Value).ownBlock ∧ (some k_ ≠ (.slice Ao25 t222.length co25 : Value).ownBlock ∧ nq27 ≤ k_))) k_) (Kd.R_tight2 rfl HO_211001.out) (fun k_ hk => ⟨hk.2, fun hp_ => (hp_.1.2.1) hk.1⟩))) hkp (fun k_ hk_ hs_ => (hk_.2) hs_)) (fun k_ hk_ => trivial)); have n3_ := Aside0.mk (blk_kept (by (with_reducible repeat (first | refine blk_drewN ?_ _ | refine blk_drew ?_ | refine blk_alloc ?_ _)); exact BK196.out) hkp (fun hs_ => (fun e_ => ownS_not e_ BK196.out (by decide)) hs_)); have n4_ := Aside0.mk (blk_kept (by (with_reducible repeat (first | refine blk_drewN ?_ _ | refine blk_drew ?_ | refine blk_alloc ?_ _)); exact BK210.out) hkp (fun hs_ => (fun e_ => ownS_not e_ BK210.out (by decide)) hs_)); have n5_ := Aside0.mk (hb); clear HO_6; clear HO_9; clear HO_211001; clear BK196; clear BK210; clear HB; have HO_6 := n0_; have HO_9 := n1_; have HO_211001 := n2_; have BK196 := n3_; have BK210 := n4_; have HB := n5_; clear n0_ n1_ n2_ n3_ n4_ n5_; (try clear hb); (try clear hkp); (try clear hy0)) | ((with_reducible refine gate_callee (f := 16) rfl ?_); refine goesL_ (some 71) rfl rfl Try.func16 (by kernel_rfl) rfl #[.slice Ao82 t225.length co82, .int .i64 1] rfl (by (try simp only [List.map_toArray, List.map_cons, List.map_nil]); first | done | (rw [show t225.length = t211.length from (Kd.S_reads' HO_9.out).1.symm] <;> rfl) | rfl | (simp only [List.length_drop, List.length_take]; rfl)) ?_; (with_reducible refine (laws_heldInt64SS.calls kj38 _ _ t225 1 t226 _ ?side1 ?side2 A56.out).mono ?_); (case side1 => repeat (first | exact (Kd.S_reads' HO_9.out).2.2 | (with_reducible refine Kd.C_alloc ?_ _) | (with_reducible refine Kd.C_drewN ?_ _) | (with_reducible refine Kd.C_drew ?_))); (case side2 => rw [show t225.length = t211.length from (Kd.S_reads' HO_9.out).1.symm]; exact (Kd.S_reads' HO_9.out).2.1); rintro e w' ⟨rfl, ⟨nd, rfl⟩⟩; refine ⟨_, rfl, ?_⟩))
           go_ret
           exact ⟨by first | rfl | (simp [errW_none, errW_some] <;> rfl) | (simp [*, errW_none, errW_some] <;> rfl), by repeat (first | (with_reducible first | exact HB.out | apply below_alloc | apply pw_below_drewN | apply below_drew1 | refine below_set ?_ GE196.out | refine below_set ?_ GE210.out) | exact HB.out)⟩
     ·replace c37 := Bool.eq_false_iff.mpr c37
      subst c37
      have H1 : (some false) = some r := by rw [if_neg (show ¬ (false = true) by decide)] at H; exact H
      clear H
      have H := H1
      clear H1
      obtain rfl := Option.some.inj H
      try go_wp2
      have n0_ := Aside0.mk (Kd.S_drew HO_6.out)
      have n1_ := Aside0.mk (Kd.S_drew HO_9.out)
      have n2_ := Aside0.mk (Kd.R_drew HO_211001.out)
      have n3_ := Aside0.mk (blk_drew BK196.out)
      have n4_ := Aside0.mk (blk_drew BK210.out)
      have n5_ := Aside0.mk (below_drew1 HB.out)
      clear HO_6
      clear HO_9
      clear HO_211001
      clear BK196
      clear BK210
      clear HB
      have HO_6 := n0_
      have HO_9 := n1_
      have HO_211001 := n2_
      have BK196 := n3_
      have BK210 := n4_
      have HB := n5_
      clear n0_ n1_ n2_ n3_ n4_ n5_
      refine start_ (n := 5) (S := fun w' => w'.cell? ⟨gb210, 0, none⟩ = some (.int .i64 t206) ∧ w'.cell? ⟨gb210, 1, none⟩ = some (.slice Ao25 t207.length co25) ∧ w'.cell? ⟨gb196, 0, none⟩ = some (.int .i64 a0_0) ∧ w'.cell? ⟨gb196, 1, none⟩ = some (.slice A0_1 l0_1.length c0_1)) (ds := []) #[false, false, false, false, false] (by kernel_rfl) rfl rfl ⟨(blk_cell BK210.out 0).trans rfl, (blk_cell BK210.out 1).trans rfl, (blk_cell BK196.out 0).trans rfl, (blk_cell BK196.out 1).trans rfl⟩ (fun hHeld => ?_)
      generalize wc.drew = w84 at HO_6 HO_9 HO_211001 BK196 BK210 HB hHeld ⊢
      refine take_ (i := 0) (N := some 45) (v := ?_) (a' := ?_) #[true, false, false, false, false] rfl rfl (by kernel_rfl) (fun _ _ _ h => h) (Or.inl ⟨by rfl, ?_⟩) hHeld ?_ ?_
      rotate_left
      ·rintro w' ⟨s0, s1, s2, s3⟩
       go_simp
       with_reducible rfl
      rotate_left
      ·simp only [Act.put, List.setIfInBounds_toArray, List.set_cons_zero, List.set_cons_succ, i64_w, i32_w]
       rfl
      refine take_ (i := 1) (N := some 46) (v := ?_) (a' := ?_) #[true, true, false, false, false] rfl rfl (by kernel_rfl) (fun _ _ _ h => h) (Or.inl ⟨by rfl, ?_⟩) hHeld ?_ ?_
      rotate_left
      ·rintro w' ⟨s0, s1, s2, s3⟩
       go_simp
       with_reducible rfl
      rotate_left
      ·simp only [Act.put, List.setIfInBounds_toArray, List.set_cons_zero, List.set_cons_succ, i64_w, i32_w]
       rfl
      refine one_ (i := 2) (N := some 47) #[true, true, true, false, false] rfl rfl (by kernel_rfl) (by decide) (fun K hK => ?_)
      refine goes_ Try.func10 (by kernel_rfl) rfl #[.agg #[.int .i64 a0_0, .slice A0_1 l0_1.length c0_1]] (by rfl) rfl rfl (by (try simp only [List.map_toArray, List.map_cons, List.map_nil]); first | done | rfl | (simp only [List.length_drop, List.length_take]; rfl)) ?_
      with_reducible refine (laws_toHex.calls kj11 a0_0 _ _ l0_1 t216 t217 _ ?side1 ?side2 A35.out).mono ?_
      (case side1 => repeat (first | exact (Kd.C_below HR0_1.out HB.out) | (with_reducible refine Kd.C_alloc ?_ _) | (with_reducible refine Kd.C_drewN ?_ _) | (with_reducible refine Kd.C_drew ?_)))
      (case side2 => exact HC0_1.out)
      rintro e w85 ⟨v218, rfl, ho0, hb⟩
      refine ⟨_, rfl, ?_⟩
      have n0_ := Aside0.mk (Kd.S_elder' (by (with_reducible repeat (first | apply Kd.S_alloc | apply Kd.S_drewN | apply Kd.S_drew)); exact HO_6.out) (Kd.R_base ho0) hb)
      have n1_ := Aside0.mk (Kd.S_elder' (by (with_reducible repeat (first | apply Kd.S_alloc | apply Kd.S_drewN | apply Kd.S_drew)); exact HO_9.out) (Kd.R_base ho0) hb)
      have n2_ := Aside0.mk (Kd.R_elder' (by (with_reducible repeat (first | apply Kd.R_alloc | apply Kd.R_drewN | apply Kd.R_drew)); exact HO_211001.out) (Kd.R_base ho0) hb)
      have n3_ := Aside0.mk (Kd.R_lower (Kd.R_new' ho0 (Kd.R_lt (by (with_reducible repeat (first | apply Kd.R_alloc | apply Kd.R_drewN | apply Kd.R_drew)); exact HO_211001.out))) (below_size (by repeat (first | (with_reducible first | exact HB.out | apply below_alloc | apply pw_below_drewN | apply below_drew1 | refine below_set ?_ GE196.out | refine below_set ?_ GE210.out) | exact HB.out))))
      have n4_ := Aside0.mk (blk_below (g := gb196) (o := .cells #[.int .i64 a0_0, .slice A0_1 l0_1.length c0_1] 24 (0, 0)) (by (with_reducible repeat (first | refine blk_drewN ?_ _ | refine blk_drew ?_ | refine blk_alloc ?_ _)); exact BK196.out) hb)
      have n5_ := Aside0.mk (blk_below (g := gb210) (o := .cells #[.int .i64 t206, .slice Ao25 t207.length co25] 29 (0, 0)) (by (with_reducible repeat (first | refine blk_drewN ?_ _ | refine blk_drew ?_ | refine blk_alloc ?_ _)); exact BK210.out) hb)
      have n6_ := Aside0.mk (below_step (by repeat (first | (with_reducible first | exact HB.out | apply below_alloc | apply pw_below_drewN | apply below_drew1 | refine below_set ?_ GE196.out | refine below_set ?_ GE210.out) | exact HB.out)) hb)
      clear HO_6
      clear HO_9
      clear HO_211001
      clear BK196
      clear BK210
      clear HB
      have HO_6 := n0_
      have HO_9 := n1_
      have HO_211001 := n2_
      have HO219 := n3_
      have BK196 := n4_
      have BK210 := n5_
      have HB := n6_
      clear n0_ n1_ n2_ n3_ n4_ n5_ n6_
      (try clear hb)
      (try clear hb2)
      (try clear hk)
      (try clear hi)
      (try clear ho0)
      obtain ⟨Ao86, co86, eo86⟩ := Kd.R_slice HO219.out
      (first | subst eo86 | (injection eo86 with f1_ f2_ f3_; have f4_ := f1_.symm; have f5_ := f3_.symm; clear f1_ f2_ f3_; subst f4_; subst f5_))
      refine hK.out _ _ ⟨(blk_cell BK210.out 0).trans rfl, (blk_cell BK210.out 1).trans rfl, (blk_cell BK196.out 0).trans rfl, (blk_cell BK196.out 1).trans rfl⟩ (fun hHeld => ?_)
      clear hK K
      refine norm_ (a' := ?_) ?_ ?_
      rotate_left
      ·show Act.put _ (some 47) _ = _
       simp only [Act.put, List.setIfInBounds_toArray, List.set_cons_zero, List.set_cons_succ, i64_w, i32_w]
       rfl
      refine one_ (i := 3) (N := some 48) #[true, true, true, true, false] rfl rfl (by kernel_rfl) (by decide) (fun K hK => ?_)
      refine goes_ Try.func13 (by kernel_rfl) rfl #[.agg #[.int .i64 t206, .slice Ao25 t207.length co25], .agg #[.int .i64 t216, .slice Ao86 t217.length co86]] (by rfl) rfl rfl (by (try simp only [List.map_toArray, List.map_cons, List.map_nil]); first | done | rfl | (simp only [List.length_drop, List.length_take]; rfl)) ?_
      with_reducible refine (laws_eqHex.calls kj11 t206 _ _ t207 t216 _ _ t217 false _ ?side1 ?side2 ?side3 ?side4 A36.out).mono ?_
      (case side1 => repeat (first | exact (Kd.R_reads' HO_211001.out).2.2 | (with_reducible refine Kd.C_alloc ?_ _) | (with_reducible refine Kd.C_drewN ?_ _) | (with_reducible refine Kd.C_drew ?_)))
      (case side2 => exact (Kd.R_reads' HO_211001.out).2.1)
      (case side3 => repeat (first | exact (Kd.R_reads' HO219.out).2.2 | (with_reducible refine Kd.C_alloc ?_ _) | (with_reducible refine Kd.C_drewN ?_ _) | (with_reducible refine Kd.C_drew ?_)))
      (case side4 => exact (Kd.R_reads' HO219.out).2.1)
      rintro e w87 ⟨rfl, hb⟩
      refine ⟨_, rfl, ?_⟩
      have n0_ := Aside0.mk (Kd.S_below (by (with_reducible repeat (first | apply Kd.S_alloc | apply Kd.S_drewN | apply Kd.S_drew)); exact HO_6.out) hb)
      have n1_ := Aside0.mk (Kd.S_below (by (with_reducible repeat (first | apply Kd.S_alloc | apply Kd.S_drewN | apply Kd.S_drew)); exact HO_9.out) hb)
      have n2_ := Aside0.mk (Kd.R_below (by (with_reducible repeat (first | apply Kd.R_alloc | apply Kd.R_drewN | apply Kd.R_drew)); exact HO_211001.out) hb)
      have n3_ := Aside0.mk (Kd.R_below (by (with_reducible repeat (first | apply Kd.R_alloc | apply Kd.R_drewN | apply Kd.R_drew)); exact HO219.out) hb)
      have n4_ := Aside0.mk (blk_below (g := gb196) (o := .cells #[.int .i64 a0_0, .slice A0_1 l0_1.length c0_1] 24 (0, 0)) (by (with_reducible repeat (first | refine blk_drewN ?_ _ | refine blk_drew ?_ | refine blk_alloc ?_ _)); exact BK196.out) hb)
      have n5_ := Aside0.mk (blk_below (g := gb210) (o := .cells #[.int .i64 t206, .slice Ao25 t207.length co25] 29 (0, 0)) (by (with_reducible repeat (first | refine blk_drewN ?_ _ | refine blk_drew ?_ | refine blk_alloc ?_ _)); exact BK210.out) hb)
      have n6_ := Aside0.mk (below_step (by repeat (first | (with_reducible first | exact HB.out | apply below_alloc | apply pw_below_drewN | apply below_drew1 | refine below_set ?_ GE196.out | refine below_set ?_ GE210.out) | exact HB.out)) hb)
      clear HO_6
      clear HO_9
      clear HO_211001
      clear HO219
      clear BK196
      clear BK210
      clear HB
      have HO_6 := n0_
      have HO_9 := n1_
      have HO_211001 := n2_
      have HO219 := n3_
      have BK196 := n4_
      have BK210 := n5_
      have HB := n6_
      clear n0_ n1_ n2_ n3_ n4_ n5_ n6_
      (try clear hb)
      (try clear hb2)
      (try clear hk)
      (try clear hi)
      refine hK.out _ _ ⟨(blk_cell BK210.out 0).trans rfl, (blk_cell BK210.out 1).trans rfl, (blk_cell BK196.out 0).trans rfl, (blk_cell BK196.out 1).trans rfl⟩ (fun hHeld => ?_)
      clear hK K
      refine norm_ (a' := ?_) ?_ ?_
      rotate_left
      ·show Act.put _ (some 48) _ = _
       simp only [Act.put, List.setIfInBounds_toArray, List.set_cons_zero, List.set_cons_succ, i64_w, i32_w]
       rfl
      refine pure_ (i := 4) (N := some 49) (v := ?_) (a' := ?_) #[true, true, true, true, true] rfl rfl (by kernel_rfl) (fun _ _ _ h => h) (Or.inl ⟨by rfl, ?_⟩) ?_ ?_
      rotate_left
      ·intro w'
       go_simp
       with_reducible rfl
      rotate_left
      ·simp only [Act.put, List.setIfInBounds_toArray, List.set_cons_zero, List.set_cons_succ, i64_w, i32_w]
       rfl
      refine done_ (by kernel_rfl) ?_
      try go_wp2
      go_ret
      exact ⟨by first | rfl | (simp [errW_none, errW_some] <;> rfl) | (simp [*, errW_none, errW_some] <;> rfl), by repeat (first | (with_reducible first | exact HB.out | apply below_alloc | apply pw_below_drewN | apply below_drew1 | refine below_set ?_ GE196.out | refine below_set ?_ GE210.out) | exact HB.out)⟩
-- Rising lists; the chosen numbers as one.
/-- Rising from a number on. -/
def Asc : Int → List Int → Prop
  | _, [] => True
  | lo, a :: r => lo ≤ a ∧ Asc (a + 1) r
theorem asc_le : ∀ (l : List Int) (lo : Int), Asc lo l → ∀ z ∈ l, lo ≤ z
  | [], _, _, _, h => by cases h
  | a :: r, lo, h, z, hz => by
    rcases List.mem_cons.1 hz with rfl | hz
    · exact h.1
    · have := asc_le r _ h.2 z hz
      have := h.1
      omega
theorem asc_ext : ∀ (x y : List Int) (lo : Int), Asc lo x → Asc lo y → (∀ z, z ∈ x ↔ z ∈ y) → x = y
  | [], [], _, _, _, _ => rfl
  | [], b :: y, _, _, _, h => by have := (h b).2 (by simp); cases this
  | a :: x, [], _, _, _, h => by have := (h a).1 (by simp); cases this
  | a :: x, b :: y, lo, hx, hy, h => by
    have e : a = b := by
      have h1 := (h a).1 (by simp)
      have h2 := (h b).2 (by simp)
      rcases List.mem_cons.1 h1 with h1 | h1
      · exact h1
      · rcases List.mem_cons.1 h2 with h2 | h2
        · exact h2.symm
        · have := asc_le y _ hy.2 a h1
          have := asc_le x _ hx.2 b h2
          omega
    subst e
    rw [asc_ext x y (a + 1) hx.2 hy.2 (fun z => ?_)]
    have hz := h z
    constructor
    · intro hm
      have := asc_le x _ hx.2 z hm
      rcases List.mem_cons.1 (hz.1 (List.mem_cons_of_mem _ hm)) with e | e
      · omega
      · exact e
    · intro hm
      have := asc_le y _ hy.2 z hm
      rcases List.mem_cons.1 (hz.2 (List.mem_cons_of_mem _ hm)) with e | e
      · omega
      · exact e
theorem asc_snoc : ∀ (l : List Int) (lo b : Int), Asc lo l → (∀ z ∈ l, z < b) → lo ≤ b → Asc lo (l ++ [b])
  | [], _, _, _, _, h => ⟨h, trivial⟩
  | a :: r, lo, b, h, hz, hb => ⟨h.1, asc_snoc r _ b h.2 (fun z hm => hz z (List.mem_cons_of_mem _ hm)) (by have := hz a (by simp); omega)⟩
theorem chosen_iff (p : Int → Bool) : ∀ (k : Nat) (x : Int), x ∈ chosenTo p k ↔ 0 ≤ x ∧ x < k ∧ p x = true
  | 0, x => by simp [chosenTo]; omega
  | k + 1, x => by
    have hs : chosenTo p (k + 1) = if p k then chosenTo p k ++ [(k : Int)] else chosenTo p k := rfl
    rw [hs]
    have ih := chosen_iff p k x
    by_cases hp : p (k : Int) = true
    · rw [if_pos hp, List.mem_append, ih]
      constructor
      · rintro (h | h)
        · exact ⟨h.1, by omega, h.2.2⟩
        · rw [List.mem_singleton] at h; subst h; exact ⟨by omega, by omega, hp⟩
      · rintro ⟨h1, h2, h3⟩
        by_cases e : x = k
        · exact .inr (by rw [e]; simp)
        · exact .inl ⟨h1, by omega, h3⟩
    · rw [if_neg hp, ih]
      constructor
      · rintro ⟨h1, h2, h3⟩; exact ⟨h1, by omega, h3⟩
      · rintro ⟨h1, h2, h3⟩
        by_cases e : x = k
        · rw [e] at h3; exact absurd h3 hp
        · exact ⟨h1, by omega, h3⟩
theorem chosen_asc (p : Int → Bool) : ∀ k : Nat, Asc 0 (chosenTo p k)
  | 0 => trivial
  | k + 1 => by
    have hs : chosenTo p (k + 1) = if p k then chosenTo p k ++ [(k : Int)] else chosenTo p k := rfl
    rw [hs]
    split
    · exact asc_snoc _ _ _ (chosen_asc p k) (fun z hz => ((chosen_iff p k z).1 hz).2.1) (by omega)
    · exact chosen_asc p k
/-- The reference's 'in' is the program's 'within'. -/
theorem in_inW (n a b : Int) : spec_l01In.f n a b = some (inW n a b) := by
  unfold spec_l01In.f inW
  by_cases h : a ≤ n <;> simp [h]
-- The neighbours: the reference's list is the program's, its cells lie on the board, none twice.
theorem nearV_good : ∀ n : Fin 9, ∀ a : Fin 64, 1 ≤ n.val → a.val < n.val * n.val → (nearV (n.val : Int) (a.val : Int)).Nodup ∧ ∀ x ∈ nearV (n.val : Int) (a.val : Int), 0 ≤ x ∧ x < ((n.val * n.val : Nat) : Int) := by decide +kernel
theorem nearV_ok {n a : Nat} (h1 : 1 ≤ n) (h8 : n ≤ 8) (ha : a < n * n) : (nearV n a).Nodup ∧ ∀ x ∈ nearV n a, 0 ≤ x ∧ x < ((n * n : Nat) : Int) := by
  have h64 : n * n ≤ 64 := Nat.mul_le_mul h8 h8
  exact nearV_good ⟨n, by omega⟩ ⟨a, by omega⟩ h1 ha
theorem nearOne_same (n r c dy dx : Int) (h1 : 1 ≤ n) (h8 : n ≤ 8) (hr : 0 ≤ r ∧ r ≤ 64) (hc : 0 ≤ c ∧ c ≤ 8) (hy : -1 ≤ dy ∧ dy ≤ 1) (hx : -1 ≤ dx ∧ dx ≤ 1) :
    wrap64 ((wrap64 (n * (wrap64 (r + dy)))) + (wrap64 (c + dx))) = nearOne n r c (dy, dx) := by
  unfold nearOne
  have hn : n = 1 ∨ n = 2 ∨ n = 3 ∨ n = 4 ∨ n = 5 ∨ n = 6 ∨ n = 7 ∨ n = 8 := by omega
  rcases hn with rfl | rfl | rfl | rfl | rfl | rfl | rfl | rfl <;> (show _ = wrap64 (wrap64 (wrap64 (wrap64 (r + dy) * _) + c) + dx); unfold wrap64; omega)
theorem nearDirs_small : ∀ e ∈ nearDirs, (-1 ≤ e.1 ∧ e.1 ≤ 1) ∧ (-1 ≤ e.2 ∧ e.2 ≤ 1) := by decide
theorem specNear_l0 (n r c : Int) (h1 : 1 ≤ n) (h8 : n ≤ 8) (hr : 0 ≤ r ∧ r ≤ 64) (hc : 0 ≤ c ∧ c ≤ 8) : ∀ (d i : Nat), i + d = 6 → Ev (fun k => spec_l06Near.l0 k n r c (nearTo n r c (nearDirs.take i)) i) (nearTo n r c nearDirs) := by
  intro d
  induction d with
  | zero =>
    intro i hi
    refine Ev.step (f := fun _ => some (nearTo n r c nearDirs)) (fun k => ?_) (Ev.now _)
    simp only [spec_l06Near.l0]
    rw [if_neg (by omega), List.take_of_length_le (by show 6 ≤ i; omega)]
  | succ d ih =>
    intro i hi
    have hlt : i < nearDirs.length := by show i < 6; omega
    have hs := nearTo_step n r c i hlt
    have hy : rd [(-1), (-1), 0, 0, 1, 1] (i : Int) = (nearDirs[i]).1 := by rcases i with _ | _ | _ | _ | _ | _ | i <;> first | rfl | (exfalso; omega)
    have hx : rd [0, 1, (-1), 1, (-1), 0] (i : Int) = (nearDirs[i]).2 := by rcases i with _ | _ | _ | _ | _ | _ | i <;> first | rfl | (exfalso; omega)
    have hb := nearDirs_small _ (List.getElem_mem hlt)
    have hone := nearOne_same n r c (nearDirs[i]).1 (nearDirs[i]).2 h1 h8 hr hc hb.1 hb.2
    have hlen : (nearTo n r c (nearDirs.take i)).length ≤ 6 := Nat.le_trans (by unfold nearTo; rw [List.length_map]; exact List.length_filter_le _ _) (by rw [List.length_take]; exact Nat.le_trans (Nat.min_le_right _ _) (Nat.le_refl 6))
    have hih := ih (i + 1) (by omega)
    rw [hs] at hih
    have w2 : wrap64 ((i : Int) + 1) = ((i + 1 : Nat) : Int) := by unfold wrap64; omega
    generalize nearDirs[i] = e at *
    obtain ⟨dy, dx⟩ := e
    have hok : nearOk n r c (dy, dx) = (inW (wrap64 (r + dy)) 0 (wrap64 (n - 1)) && inW (wrap64 (c + dx)) 0 (wrap64 (n - 1))) := rfl
    generalize nearTo n r c (nearDirs.take i) = xs at *
    refine Ev.step (fun k => ?_) hih
    simp only [spec_l06Near.l0, Option.bind_some]
    rw [if_pos (by omega), if_pos (by omega), if_pos (by simp; omega), if_pos (by simp; omega), hy, hx, in_inW, in_inW]
    simp only [Option.bind_some]
    rw [w2, hok]
    cases h2 : inW (wrap64 (r + dy)) 0 (wrap64 (n - 1)) with
    | false => simp
    | true =>
      cases h3 : inW (wrap64 (c + dx)) 0 (wrap64 (n - 1)) with
      | false => simp
      | true =>
        simp only [if_true, Bool.and_self]
        rw [if_pos (by omega), hone]
theorem specNear_ev {n a : Nat} (h1 : 1 ≤ n) (h8 : n ≤ 8) (ha : a < n * n) : Ev (fun k => spec_l06Near.f k (n : Int) (a : Int)) (nearV n a) := by
  have h64 : n * n ≤ 64 := Nat.mul_le_mul h8 h8
  have hd : Int.tdiv (a : Int) (n : Int) = ((a / n : Nat) : Int) := rfl
  have hm : Int.tmod (a : Int) (n : Int) = ((a % n : Nat) : Int) := rfl
  have hq : a / n ≤ 64 := Nat.le_trans (Nat.div_le_self a n) (by omega)
  have hr : a % n < n := Nat.mod_lt _ (by omega)
  unfold spec_l06Near.f nearV
  refine Ev.congr (fun k => by rw [if_neg (by omega)]) ?_
  rw [hd, hm]
  generalize a / n = q at *
  generalize a % n = r at *
  have hw : wrap64 (q : Int) = (q : Int) := by unfold wrap64; omega
  rw [hw]
  exact specNear_l0 n _ _ (by omega) (by omega) ⟨by omega, by omega⟩ ⟨by omega, by omega⟩ 6 0 (by omega)
-- HexBridges: the reference's test of two cells is the program's.
def manyOf (second : List Int) (x : Int) : List Int := List.replicate (second.count x) x
theorem many_filter (second : List Int) (hn : second.Nodup) : ∀ first : List Int, first.flatMap (manyOf second) = first.filter (fun c => second.contains c)
  | [] => rfl
  | x :: r => by
    rw [List.flatMap_cons, many_filter second hn r]
    by_cases h : x ∈ second
    · have h1 : second.count x = 1 := by rw [hn.count, if_pos h]
      unfold manyOf
      rw [h1, List.filter_cons_of_pos (by simpa using h)]; rfl
    · have h1 : second.count x = 0 := List.count_eq_zero.2 h
      unfold manyOf
      rw [h1, List.filter_cons_of_neg (by simpa using h)]; rfl
def lastTest (l c : List Int) : Bool := decide (c.length = 2) && ((rd l (rd c 0) == 0) && (rd l (rd c 1) == 0))
theorem bridge_l1 (b p : Int) (l first second : List Int) (i : Nat) (hi : i < first.length) (h1 : first.length ≤ 100) (h2 : second.length ≤ 100) (R : Bool) : ∀ (d j : Nat) (c : List Int), j + d = second.length → c.length + d ≤ 10000 →
    Ev (fun k => spec_l06Bridge.l0 k b first second (c ++ List.replicate ((second.drop j).count first[i]) first[i]) ((i + 1 : Nat) : Int) p l) R → Ev (fun k => spec_l06Bridge.l1 k b first second c i j p l) R := by
  intro d
  induction d with
  | zero =>
    intro j c hj hc h
    rw [List.drop_of_length_le (by omega)] at h
    have w2 : wrap64 ((i : Int) + 1) = ((i + 1 : Nat) : Int) := by unfold wrap64; omega
    have h' : Ev (fun k => spec_l06Bridge.l0 k b first second c ((i + 1 : Nat) : Int) p l) R := by simpa using h
    refine Ev.step (fun k => ?_) h'
    simp only [spec_l06Bridge.l1]
    rw [if_neg (by omega), w2]
  | succ d ih =>
    intro j c hj hc h
    have hlt : j < second.length := by omega
    have w2 : wrap64 ((j : Int) + 1) = ((j + 1 : Nat) : Int) := by unfold wrap64; omega
    have e1 : second.drop j = second[j] :: second.drop (j + 1) := List.drop_eq_getElem_cons hlt
    rw [e1] at h
    by_cases he : first[i] = second[j]
    · rw [List.count_cons, if_pos (by simp [he]), List.replicate_succ] at h
      have h' : Ev (fun k => spec_l06Bridge.l0 k b first second (c ++ [first[i]] ++ List.replicate ((second.drop (j + 1)).count first[i]) first[i]) ((i + 1 : Nat) : Int) p l) R := by rw [List.append_assoc]; exact h
      refine Ev.step (fun k => ?_) (ih (j + 1) (c ++ [first[i]]) (by omega) (by simp; omega) h')
      simp only [spec_l06Bridge.l1]
      rw [if_pos (by omega), if_pos (by omega), if_pos (by omega), if_pos (by omega), rd_get first i hi, rd_get second j hlt, if_pos he, if_pos (by omega), w2]
    · rw [List.count_cons, if_neg (by simp; exact fun e => he e.symm), Nat.add_zero] at h
      refine Ev.step (fun k => ?_) (ih (j + 1) c (by omega) (by omega) h)
      simp only [spec_l06Bridge.l1]
      rw [if_pos (by omega), if_pos (by omega), if_pos (by omega), if_pos (by omega), rd_get first i hi, rd_get second j hlt, if_neg he, w2]
theorem bridge_end (b p : Int) (l first second c : List Int) (hc : ∀ x ∈ c, 0 ≤ x ∧ x < (l.length : Int)) : Ev (fun k => spec_l06Bridge.l0 k b first second c (first.length : Nat) p l) (lastTest l c) := by
  refine Ev.step (f := fun _ => some (lastTest l c)) (fun k => ?_) (Ev.now _)
  simp only [spec_l06Bridge.l0]
  rw [if_neg (by omega)]
  by_cases h : c.length = 2
  · match c, h, hc with
    | [x, y], _, hc =>
      obtain ⟨x0, x1⟩ := hc x (by simp)
      obtain ⟨y0, y1⟩ := hc y (by simp)
      have e0 : rd [x, y] 0 = x := rfl
      have e1 : rd [x, y] 1 = y := rfl
      unfold lastTest
      rw [if_pos (by rfl), if_pos (by simp), e0, e1, if_pos x0, if_pos x1]
      by_cases hx : rd l x = 0
      · rw [if_pos hx, if_pos (by simp), if_pos y0, if_pos y1, hx]
        simp
      · rw [if_neg hx]
        have : (rd l x == 0) = false := beq_eq_false_iff_ne.mpr hx
        rw [this]; simp
  · unfold lastTest
    rw [if_neg (by omega), decide_eq_false h]; rfl
theorem bridge_l0 (b p : Int) (l first second : List Int) (h1 : first.length ≤ 100) (h2 : second.length ≤ 100) (hf : ∀ x ∈ first, 0 ≤ x ∧ x < (l.length : Int)) : ∀ (d i : Nat) (c : List Int), i + d = first.length → c.length ≤ i * 100 → (∀ x ∈ c, 0 ≤ x ∧ x < (l.length : Int)) →
    Ev (fun k => spec_l06Bridge.l0 k b first second c i p l) (!(first.drop i).contains b && lastTest l (c ++ (first.drop i).flatMap (manyOf second))) := by
  intro d
  induction d with
  | zero =>
    intro i c hi hc hx
    have e : i = first.length := by omega
    subst e
    rw [List.drop_of_length_le (Nat.le_refl _)]
    simpa using bridge_end b p l first second c hx
  | succ d ih =>
    intro i c hi hc hx
    have hlt : i < first.length := by omega
    have e1 : first.drop i = first[i] :: first.drop (i + 1) := List.drop_eq_getElem_cons hlt
    rw [e1]
    by_cases he : first[i] = b
    · have : (first[i] :: first.drop (i + 1)).contains b = true := by simp [he]
      rw [this]
      refine Ev.step (f := fun _ => some false) (fun k => ?_) (Ev.now _)
      simp only [spec_l06Bridge.l0]
      rw [if_pos (by omega), if_pos (by omega), rd_get first i hlt, if_pos he]
    · have hcb : (first[i] :: first.drop (i + 1)).contains b = (first.drop (i + 1)).contains b := by
        rw [List.contains_cons]
        have : (b == first[i]) = false := beq_eq_false_iff_ne.mpr (fun e => he e.symm)
        rw [this, Bool.false_or]
      rw [hcb, List.flatMap_cons, ← List.append_assoc]
      have hcnt : second.count first[i] ≤ 100 := Nat.le_trans List.count_le_length h2
      have := ih (i + 1) (c ++ manyOf second first[i]) (by omega) (by unfold manyOf; simp; omega) (fun x hm => by
        rcases List.mem_append.1 hm with hm | hm
        · exact hx x hm
        · have := List.eq_of_mem_replicate hm
          subst this
          exact hf _ (List.getElem_mem hlt))
      have h3 := bridge_l1 b p l first second i hlt h1 h2 _ second.length 0 c (by omega) (by omega) (by rw [List.drop_zero]; exact this)
      refine Ev.step (fun k => ?_) h3
      simp only [spec_l06Bridge.l0]
      rw [if_pos (by omega), if_pos (by omega), rd_get first i hlt, if_neg he]; rfl
/-- The test of both. -/
theorem lastTest_sh (l sh : List Int) : lastTest l sh = (decide (sh.length = 2) && !bridgeTk l sh) := by
  unfold lastTest bridgeTk
  by_cases h : sh.length = 2
  · match sh, h with
    | [x, y], _ =>
      have e0 : rd [x, y] 0 = x := rfl
      have e1 : rd [x, y] 1 = y := rfl
      rw [e0, e1]
      cases h1 : (rd l x == 0) <;> cases h2 : (rd l y == 0) <;> simp_all
  · rw [decide_eq_false h]; rfl
theorem bridge_main (b p : Int) (l F S : List Int) (hF : F.length ≤ 100) (hS : S.length ≤ 100) (fa : ∀ x ∈ F, 0 ≤ x ∧ x < (l.length : Int)) (nb : S.Nodup) :
    Ev (fun k => spec_l06Bridge.l0 k b F S [] 0 p l) (!F.contains b && (decide ((F.filter fun c => !(!S.contains c)).length = 2) && !bridgeTk l (F.filter fun c => !(!S.contains c)))) := by
  have hsh : (F.filter fun c => !(!S.contains c)) = F.flatMap (manyOf S) := by
    rw [many_filter _ nb]
    congr 1
    funext c
    rw [Bool.not_not]
  rw [hsh, ← lastTest_sh]
  have := bridge_l0 b p l F S hF hS fa F.length 0 [] (Nat.zero_add _) (Nat.zero_le _) (fun x hx => by cases hx)
  rw [List.drop_zero, List.nil_append] at this
  exact this
theorem specBridge_ev {n a b : Nat} (l : List Int) (h1 : 1 ≤ n) (h8 : n ≤ 8) (hl : l.length = n * n) (ha : a < n * n) (hb : b < n * n) : Ev (fun k => spec_l06Bridge.f k (n : Int) l a b) (bridgeOk n l a b) := by
  have fa := (nearV_ok h1 h8 ha).2
  have nb := (nearV_ok h1 h8 hb).1
  have la := nearV_len (n : Int) (a : Int)
  have lb := nearV_len (n : Int) (b : Int)
  have eA := specNear_ev h1 h8 ha
  have eB := specNear_ev h1 h8 hb
  unfold bridgeOk bridgeSh spec_l06Bridge.f
  rw [← hl] at fa
  generalize nearV (n : Int) (a : Int) = F at *
  generalize nearV (n : Int) (b : Int) = S at *
  exact Ev.bind eA (Ev.bind eB (bridge_main b n l F S (Nat.le_trans la (by decide)) (Nat.le_trans lb (by decide)) fa nb))
/-- The verifier's count of a list. -/
theorem szInt64S_val (l : List Int) (a : Int) (hl : l.length ≤ maxLen) (h0 : 0 ≤ a) (h1 : a ≤ 1048576) : laws_szInt64S.f l a = some (if a < l.length then -1 else a - l.length) := by
  unfold maxLen at hl
  have e : wrap64 (a - (l.length : Int)) = a - l.length := by unfold wrap64; omega
  unfold laws_szInt64S.f
  rw [e]
  by_cases h : a < l.length
  · rw [if_pos h, if_pos (by omega)]
  · rw [if_neg h, if_neg (by omega)]
-- needs: 56 (boards, in plain words)
theorem inW_bool (n a b : Int) : inW n a b = true ↔ a ≤ n ∧ n ≤ b := by simp [inW]
theorem inW_false {n a b : Int} (h : ¬ (a ≤ n ∧ n ≤ b)) : inW n a b = false := by
  cases e : inW n a b
  · rfl
  · exact absurd ((inW_bool n a b).1 e) h
theorem chosenTo_count (l : List Int) (v : Int) : ∀ k, k ≤ l.length → (chosenTo (fun c => rd l c == v) k).length = (l.take k).count v
  | 0, _ => by simp [chosenTo]
  | k + 1, h => by
    have ih := chosenTo_count l v k (by omega)
    rw [List.take_succ_eq_append_getElem (by omega), List.count_append, ← ih]
    have hs : chosenTo (fun c => rd l c == v) (k + 1) = if (rd l (k : Int) == v) = true then chosenTo (fun c => rd l c == v) k ++ [(k : Int)] else chosenTo (fun c => rd l c == v) k := rfl
    rw [hs, rd_get l k (by omega)]
    by_cases e : l[k] = v
    · simp [e]
    · simp [e]
theorem chosenTo_all (l : List Int) (v : Int) : (chosenTo (fun c => rd l c == v) l.length).length = l.count v := by
  rw [chosenTo_count l v _ (Nat.le_refl _), List.take_length]
theorem l06Is_l0 (p : Int) (l : List Int) (hl : l.length ≤ 9223372036854775807) : ∀ (d i : Nat), i + d = l.length → Ev (fun k => spec_l06Is.l0 k i p l) (!(l.drop i).any (fun c => !inW c 0 2)) := by
  intro d
  induction d with
  | zero =>
    intro i hi
    refine Ev.step (f := fun _ => some _) (fun k => ?_) (Ev.now _)
    simp only [spec_l06Is.l0]
    rw [if_neg (by omega), List.drop_eq_nil_of_le (by omega)]; rfl
  | succ d ih =>
    intro i hi
    have hlt : i < l.length := by omega
    rw [List.drop_eq_getElem_cons hlt, List.any_cons]
    by_cases he : inW l[i] 0 2 = true
    · rw [he]
      simp only [Bool.not_true, Bool.false_or]
      refine Ev.step (f := fun k => spec_l06Is.l0 k ((i + 1 : Nat) : Int) p l) (fun k => ?_) (ih (i + 1) (by omega))
      simp only [spec_l06Is.l0]
      rw [if_pos (by omega), if_pos (by omega), wrap_next hlt hl, rd_get l i hlt, in_inW, he]; rfl
    · refine Ev.step (f := fun _ => some _) (fun k => ?_) (Ev.now _)
      simp only [spec_l06Is.l0]
      rw [if_pos (by omega), if_pos (by omega), rd_get l i hlt, in_inW]
      simp [he]
theorem l06Is_ev (p : Int) (l : List Int) (hl : l.length ≤ 9223372036854775807) : Ev (fun k => spec_l06Is.f k p l) (isHexV p l) := by
  unfold spec_l06Is.f isHexV
  rw [in_inW]
  have hj : Ev (fun k => spec_l06Is.j0 k true p l) false := Ev.step (f := fun _ => some false) (fun k => by simp only [spec_l06Is.j0]; rw [if_pos trivial]) (Ev.now _)
  by_cases h1 : inW p 1 8 = true
  · rw [h1]
    by_cases h2 : (l.length : Int) = wrap64 (p * p)
    · have h3 : ((l.length : Int) == wrap64 (p * p)) = true := by simpa using h2
      have h4 : ((l.length : Int) != wrap64 (p * p)) = false := by simpa using h2
      rw [h3, h4]
      have := l06Is_l0 p l hl l.length 0 (by omega)
      rw [List.drop_zero] at this
      refine Ev.congr (f := fun k => spec_l06Is.j0 k false p l) (fun k => by rw [Option.bind_some, if_pos rfl]) (Ev.step (fun k => ?_) this)
      simp only [spec_l06Is.j0]
      rw [if_neg (by simp)]; rfl
    · have h3 : ((l.length : Int) == wrap64 (p * p)) = false := by simpa using h2
      have h4 : ((l.length : Int) != wrap64 (p * p)) = true := by simpa using h2
      rw [h3, h4]
      exact Ev.congr (fun k => by rw [Option.bind_some, if_pos rfl]) hj
  · have h1' : inW p 1 8 = false := by simpa using h1
    rw [h1']
    exact Ev.congr (fun k => by rw [Option.bind_some, if_neg (by simp)]) hj
theorem isHexV_cells {p : Int} {l : List Int} (h : isHexV p l = true) : 1 ≤ p ∧ p ≤ 8 ∧ (l.length : Int) = p * p ∧ ∀ x ∈ l, x = 0 ∨ x = 1 ∨ x = 2 := by
  unfold isHexV at h
  simp only [Bool.and_eq_true, beq_iff_eq, Bool.not_eq_true', List.any_eq_false, Bool.not_eq_true, Bool.not_eq_false'] at h
  obtain ⟨⟨h1, h2⟩, h3⟩ := h
  obtain ⟨ha, hb⟩ := (inW_bool _ _ _).1 h1
  have : p * p = 1 ∨ p * p = 4 ∨ p * p = 9 ∨ p * p = 16 ∨ p * p = 25 ∨ p * p = 36 ∨ p * p = 49 ∨ p * p = 64 := by
    have : p = 1 ∨ p = 2 ∨ p = 3 ∨ p = 4 ∨ p = 5 ∨ p = 6 ∨ p = 7 ∨ p = 8 := by omega
    rcases this with rfl | rfl | rfl | rfl | rfl | rfl | rfl | rfl <;> simp
  refine ⟨ha, hb, ?_, fun x hx => ?_⟩
  · rw [h2]; unfold wrap64; omega
  · have := (inW_bool _ _ _).1 (by simpa using h3 x hx)
    omega
theorem hex_small {p : Int} {l : List Int} (h : isHexV p l = true) : l.length ≤ 64 := by
  obtain ⟨h1, h2, h3, _⟩ := isHexV_cells h
  have : p = 1 ∨ p = 2 ∨ p = 3 ∨ p = 4 ∨ p = 5 ∨ p = 6 ∨ p = 7 ∨ p = 8 := by omega
  rcases this with rfl | rfl | rfl | rfl | rfl | rfl | rfl | rfl <;> omega
/-- The mover of a board by the numbers of cells, 0 for none. -/
theorem szHex_ev (p : Int) (l : List Int) (hl : l.length ≤ maxLen) : ∃ v, laws_szHex.f p l 1048576 = some v ∧ (v = -1 ∨ 0 ≤ v ∧ l.length ≤ 1048576) := by
  unfold laws_szHex.f
  rw [szInt64S_val l 1048576 hl (by omega) (by omega), Option.bind_some]
  by_cases h : (1048576 : Int) < l.length
  · rw [if_pos h]; exact ⟨-1, rfl, .inl rfl⟩
  · rw [if_neg h, if_neg (by omega)]; exact ⟨_, rfl, .inr ⟨by omega, by omega⟩⟩
theorem toHex_ev (p : Int) (l : List Int) (hl : l.length ≤ 1048576) : Ev (fun k => laws_toHex.f k p l) (p, l) := by
  unfold laws_toHex.f
  exact Ev.bind (toInt64S_ev l (by omega)) (Ev.now _)
theorem eqHex_self (p : Int) (l : List Int) (hl : l.length ≤ 1048576) : Ev (fun k => laws_eqHex.f k p l p l) true := by
  unfold laws_eqHex.f
  refine Ev.congr (fun k => by rw [if_pos rfl]) (Ev.bind (eqInt64S_self l (by omega)) (Ev.congr (fun k => by rw [if_pos rfl]) (Ev.now _)))
-- HexBridges: all pairs.
def upTo : Nat → Nat → List Int
  | _, 0 => []
  | j, d + 1 => (j : Int) :: upTo (j + 1) d
theorem upTo_mem : ∀ (d j : Nat) (z : Int), z ∈ upTo j d ↔ (j : Int) ≤ z ∧ z < ((j + d : Nat) : Int)
  | 0, j, z => by
    simp only [upTo, List.not_mem_nil, false_iff]
    omega
  | d + 1, j, z => by
    have ih := upTo_mem d (j + 1) z
    simp only [upTo, List.mem_cons, ih]
    omega
theorem upTo_asc : ∀ (d j : Nat), Asc j (upTo j d)
  | 0, _ => trivial
  | d + 1, j => ⟨Int.le_refl _, upTo_asc d (j + 1)⟩
theorem asc_weak : ∀ (l : List Int) (a b : Int), a ≤ b → Asc b l → Asc a l
  | [], _, _, _, _ => trivial
  | x :: r, a, b, h, hb => ⟨Int.le_trans h hb.1, hb.2⟩
theorem asc_filter (p : Int → Bool) : ∀ (l : List Int) (a : Int), Asc a l → Asc a (l.filter p)
  | [], _, _ => trivial
  | x :: r, a, h => by
    have ih := asc_filter p r (x + 1) h.2
    cases hp : p x with
    | true => rw [List.filter_cons_of_pos hp]; exact ⟨h.1, ih⟩
    | false => rw [List.filter_cons_of_neg (by simp [hp])]; exact asc_weak _ _ _ (by have := h.1; omega) ih
theorem chosen_upTo (p : Int → Bool) (k : Nat) : chosenTo p k = (upTo 0 k).filter p := by
  refine asc_ext _ _ 0 (chosen_asc p k) (asc_filter p _ _ (upTo_asc k 0)) (fun z => ?_)
  rw [chosen_iff, List.mem_filter, upTo_mem]
  constructor
  · rintro ⟨h1, h2, h3⟩; exact ⟨⟨by omega, by omega⟩, h3⟩
  · rintro ⟨⟨h1, h2⟩, h3⟩; exact ⟨by omega, by omega, h3⟩
/-- The pairs of a cell with those behind it, of which a test lets by. -/
def pairsIn (B : Int → Int → Bool) (a : Int) : List Int → List (List Int) → List (List Int)
  | [], o => o
  | b :: r, o => pairsIn B a r (if B a b = true then o ++ [[a, b]] else o)
def pairsOut (B : Int → Int → Bool) : List Int → List (List Int) → List (List Int)
  | [], o => o
  | a :: r, o => pairsOut B r (pairsIn B a r o)
theorem brIn_some (n : Int) (l : List Int) (a : Int) (h : ∀ b, inCells l (bridgeSh n a b) = true) (r : List Int) : ∀ o : List (List Int), brIn n l a r o = some (pairsIn (bridgeOk n l) a r o) := by
  induction r with
  | nil => intro o; rfl
  | cons b r ih =>
    intro o
    simp only [brIn, pairsIn]
    rw [if_pos (h b), ih]
theorem inCells_sh {n : Nat} (l : List Int) (h1 : 1 ≤ n) (h8 : n ≤ 8) (hl : l.length = n * n) {a : Nat} (ha : a < n * n) (b : Int) : inCells l (bridgeSh n a b) = true := by
  have hx := (nearV_ok h1 h8 ha).2
  unfold inCells bridgeSh
  rw [← hl] at hx
  generalize nearV (n : Int) (a : Int) = F at *
  rw [List.all_eq_true]
  intro x hm
  have := hx x (List.mem_filter.1 hm).1
  simp [this.1, this.2]
theorem brOut_some (n : Int) (l : List Int) (r : List Int) : (∀ a ∈ r, ∀ b, inCells l (bridgeSh n a b) = true) → ∀ o : List (List Int), brOut n l r o = some (pairsOut (bridgeOk n l) r o) := by
  induction r with
  | nil => intro _ o; rfl
  | cons a r ih =>
    intro h o
    simp only [brOut, pairsOut]
    rw [brIn_some n l a (h a (by simp)) r o, Option.bind_some]
    exact ih (fun x hx => h x (List.mem_cons_of_mem _ hx)) _
theorem pairsIn_len (B : Int → Int → Bool) (a : Int) : ∀ (r : List Int) (o : List (List Int)), (pairsIn B a r o).length ≤ o.length + r.length
  | [], _ => by simp [pairsIn]
  | b :: r, o => by
    simp only [pairsIn]
    by_cases h : B a b = true
    · rw [if_pos h]
      have := pairsIn_len B a r (o ++ [[a, b]])
      simp at this ⊢; omega
    · rw [if_neg h]
      have := pairsIn_len B a r o
      simp; omega
theorem spec_l1 (n : Int) (l : List Int) (pl : Int) (B : Int → Int → Bool) (hB : ∀ a b : Nat, a < l.length → b < l.length → Ev (fun k => spec_l06Bridge.f k n l a b) (B a b)) (h64 : l.length ≤ 64) (a : Nat) (ha : a < l.length) (R : List (List Int) × Int) : ∀ (d j : Nat) (o : List (List Int)), j + d = l.length → o.length + d ≤ 100000 →
    Ev (fun k => spec_HexBridges.l0 k pl (if rd l a = pl then pairsIn B a ((upTo j d).filter fun c => rd l c == pl) o else o) ((a + 1 : Nat) : Int) n l) R → Ev (fun k => spec_HexBridges.l1 k pl o a j n l) R := by
  intro d
  induction d with
  | zero =>
    intro j o hj ho h
    have e : (if rd l (a : Int) = pl then pairsIn B a ((upTo j 0).filter fun c => rd l c == pl) o else o) = o := by split <;> rfl
    rw [e] at h
    have w2 : wrap64 ((a : Int) + 1) = ((a + 1 : Nat) : Int) := by unfold wrap64; omega
    refine Ev.step (fun k => ?_) h
    simp only [spec_HexBridges.l1]
    rw [if_neg (by omega), w2]
  | succ d ih =>
    intro j o hj ho h
    have hlt : j < l.length := by omega
    have w2 : wrap64 ((j : Int) + 1) = ((j + 1 : Nat) : Int) := by unfold wrap64; omega
    have hu : upTo j (d + 1) = (j : Int) :: upTo (j + 1) d := rfl
    rw [hu] at h
    by_cases hpa : rd l (a : Int) = pl
    · rw [if_pos hpa] at h
      by_cases hpb : rd l (j : Int) = pl
      · rw [List.filter_cons_of_pos (by simp [hpb])] at h
        have hBj := hB a j ha hlt
        have hstep : ∀ k, spec_HexBridges.l1 (k + 1) pl o a j n l = (spec_l06Bridge.f k n l a j).bind fun t152 => (if t152 = true then (spec_HexBridges.l1 k pl (o ++ [[(a : Int), (j : Int)]]) a ((j + 1 : Nat) : Int) n l) else (spec_HexBridges.l1 k pl o a ((j + 1 : Nat) : Int) n l)) := by
          intro k
          simp only [spec_HexBridges.l1]
          rw [if_pos (by omega), if_pos (by omega), if_pos (by omega), if_pos hpa, if_pos (by omega), if_pos hpb, w2]
          congr 1
          funext t
          have hle : o.length < 5864062014805 := by omega
          cases t with
          | true => rw [if_pos rfl, if_pos rfl, if_pos hle]
          | false => rw [if_neg (by simp), if_neg (by simp)]
        refine Ev.step hstep (Ev.bind hBj ?_)
        simp only [pairsIn] at h
        cases hbo : B a j with
        | true =>
          rw [hbo, if_pos rfl] at h
          refine Ev.congr (fun k => by rw [if_pos rfl]) (ih (j + 1) _ (by omega) (by simp; omega) ?_)
          rw [if_pos hpa]
          exact h
        | false =>
          rw [hbo, if_neg (by simp)] at h
          refine Ev.congr (fun k => by rw [if_neg (by simp)]) (ih (j + 1) _ (by omega) (by omega) ?_)
          rw [if_pos hpa]
          exact h
      · rw [List.filter_cons_of_neg (by simp [hpb])] at h
        refine Ev.step (fun k => ?_) (ih (j + 1) o (by omega) (by omega) (by rw [if_pos hpa]; exact h))
        simp only [spec_HexBridges.l1]
        rw [if_pos (by omega), if_pos (by omega), if_pos (by omega), if_pos hpa, if_pos (by omega), if_neg hpb, w2]
    · rw [if_neg hpa] at h
      refine Ev.step (fun k => ?_) (ih (j + 1) o (by omega) (by omega) (by rw [if_neg hpa]; exact h))
      simp only [spec_HexBridges.l1]
      rw [if_pos (by omega), if_pos (by omega), if_pos (by omega), if_neg hpa, w2]
theorem spec_l0 (n : Int) (l : List Int) (pl : Int) (B : Int → Int → Bool) (hB : ∀ a b : Nat, a < l.length → b < l.length → Ev (fun k => spec_l06Bridge.f k n l a b) (B a b)) (h64 : l.length ≤ 64) : ∀ (d i : Nat) (o : List (List Int)), i + d = l.length → o.length ≤ 64 * i →
    Ev (fun k => spec_HexBridges.l0 k pl o i n l) (pairsOut B ((upTo i d).filter fun c => rd l c == pl) o, 0) := by
  intro d
  induction d with
  | zero =>
    intro i o hi ho
    refine Ev.step (f := fun _ => some (o, 0)) (fun k => ?_) (Ev.now _)
    simp only [spec_HexBridges.l0]
    rw [if_neg (by omega)]
  | succ d ih =>
    intro i o hi ho
    have hlt : i < l.length := by omega
    have w2 : wrap64 ((i : Int) + 1) = ((i + 1 : Nat) : Int) := by unfold wrap64; omega
    have hu : upTo i (d + 1) = (i : Int) :: upTo (i + 1) d := rfl
    rw [hu]
    have hpl := pairsIn_len B i ((upTo (i + 1) d).filter fun c => rd l c == pl) o
    have hul : ((upTo (i + 1) d).filter fun c => rd l c == pl).length ≤ d := by
      refine Nat.le_trans (List.length_filter_le _ _) ?_
      have : ∀ (d j : Nat), (upTo j d).length = d := fun d => by
        induction d with
        | zero => intro j; rfl
        | succ d ih => intro j; simp [upTo, ih]
      rw [this]; exact Nat.le_refl _
    by_cases hp : rd l (i : Int) = pl
    · rw [List.filter_cons_of_pos (by simp [hp])]
      have h := ih (i + 1) (pairsIn B i ((upTo (i + 1) d).filter fun c => rd l c == pl) o) (by omega) (by omega)
      have h2 := spec_l1 n l pl B hB h64 i hlt _ d (i + 1) o (by omega) (by omega) (by rw [if_pos hp]; exact h)
      refine Ev.step (fun k => ?_) h2
      simp only [spec_HexBridges.l0]
      rw [if_pos (by omega), w2]
    · rw [List.filter_cons_of_neg (by simp [hp])]
      have h := ih (i + 1) o (by omega) (by omega)
      have h2 := spec_l1 n l pl B hB h64 i hlt _ d (i + 1) o (by omega) (by omega) (by rw [if_neg hp]; exact h)
      refine Ev.step (fun k => ?_) h2
      simp only [spec_HexBridges.l0]
      rw [if_pos (by omega), w2]
/-- The answer of both. -/
def bridgesV (p : Int) (l : List Int) (pl : Int) : List (List Int) × Int := if isHexV p l = true then (if inW pl 1 2 = true then (pairsOut (bridgeOk p l) (chosenTo (fun c => rd l c == pl) l.length) [], 0) else ([], 2)) else ([], 1)
theorem firstHex_ev (a b : Bool) : Ev (fun k => impl_first.f k [⟨a, 1⟩, ⟨b, 2⟩]) (if a = true then (if b = true then 0 else 2) else 1) := by
  refine ⟨4, fun k hk => ?_⟩
  obtain ⟨k', rfl⟩ : ∃ k', k = k' + 4 := ⟨k - 4, by omega⟩
  have w1 : wrap64 1 = 1 := by unfold wrap64; omega
  have w2 : wrap64 2 = 2 := by unfold wrap64; omega
  have r0 : ∀ u v : S86, rd_T86 [u, v] 0 = u := fun _ _ => rfl
  have r1 : ∀ u v : S86, rd_T86 [u, v] 1 = v := fun _ _ => rfl
  cases a <;> cases b <;> simp [impl_first.f, impl_first.l0, w1, w2, r0, r1]
theorem hex_nat {p : Int} {l : List Int} (h : isHexV p l = true) : ∃ n : Nat, p = n ∧ 1 ≤ n ∧ n ≤ 8 ∧ l.length = n * n := by
  obtain ⟨h1, h8, hl, _⟩ := isHexV_cells h
  refine ⟨p.toNat, by omega, by omega, by omega, ?_⟩
  have e : p = ((p.toNat : Nat) : Int) := by omega
  rw [e] at hl
  rw [← Int.natCast_mul] at hl
  exact Int.ofNat.inj hl
theorem specBridges_ev (p : Int) (l : List Int) (pl : Int) (hl : l.length ≤ 9223372036854775807) : Ev (fun k => spec_HexBridges.f k p l pl) (bridgesV p l pl) := by
  unfold spec_HexBridges.f bridgesV
  refine Ev.bind (l06Is_ev p l hl) ?_
  by_cases h : isHexV p l = true
  · rw [if_pos h]
    refine Ev.congr (fun k => by rw [if_pos h, in_inW, Option.bind_some]) ?_
    by_cases h2 : inW pl 1 2 = true
    · rw [if_pos h2]
      obtain ⟨n, rfl, h1, h8, hn⟩ := hex_nat h
      refine Ev.congr (fun k => by rw [if_pos h2]) ?_
      rw [chosen_upTo]
      exact spec_l0 n l pl (bridgeOk n l) (fun a b ha hb => specBridge_ev l h1 h8 hn (by omega) (by omega)) (hex_small h) l.length 0 [] (by omega) (by simp)
    · rw [if_neg h2]
      exact Ev.congr (f := fun _ => some _) (fun k => by rw [if_neg h2]) (Ev.now _)
  · rw [if_neg h]
    exact Ev.congr (f := fun _ => some _) (fun k => by rw [if_neg h]) (Ev.now _)
theorem implBridges_ev (p : Int) (l : List Int) (pl : Int) : Ev (fun k => impl_HexBridges.f k p l pl) (bridgesV p l pl) := by
  have hcode : Ev (fun k => impl_playerCode.f k p l pl) (if isHexV p l = true then (if inW pl 1 2 = true then 0 else 2) else 1) := by
    refine Ev.congr (f := fun k => (impl_first.f k [⟨isHexV p l, 1⟩, ⟨inW pl 1 2, 2⟩]).bind fun t => some t) (fun k => ?_) (Ev.bind (firstHex_ev _ _) (Ev.now _))
    unfold impl_playerCode.f impl_IsHex.f
    rw [within_inW]; rfl
  unfold impl_HexBridges.f bridgesV
  refine Ev.bind hcode ?_
  by_cases h : isHexV p l = true
  · rw [if_pos h, if_pos h]
    by_cases h2 : inW pl 1 2 = true
    · rw [if_pos h2, if_pos h2]
      obtain ⟨n, rfl, h1, h8, hn⟩ := hex_nat h
      have h64 := hex_small h
      refine Ev.congr (f := fun _ => some _) (fun k => ?_) (Ev.now _)
      rw [if_pos rfl, if_neg (by omega), brOut_some n l _ (fun x hx => ?_), Option.bind_some]
      have hx3 := (chosen_iff _ _ _).1 hx
      obtain ⟨m, rfl⟩ : ∃ m : Nat, x = m := ⟨x.toNat, by omega⟩
      exact inCells_sh l h1 h8 hn (by omega)
    · rw [if_neg h2, if_neg h2]
      exact Ev.congr (f := fun _ => some _) (fun k => by rw [if_neg (by decide)]) (Ev.now _)
  · rw [if_neg h, if_neg h]
    exact Ev.congr (f := fun _ => some _) (fun k => by rw [if_neg (by decide)]) (Ev.now _)
theorem pairsIn_two (B : Int → Int → Bool) (a : Int) : ∀ (r : List Int) (o : List (List Int)), (∀ z ∈ o, z.length = 2) → ∀ z ∈ pairsIn B a r o, z.length = 2
  | [], _, h => h
  | b :: r, o, h => by
    simp only [pairsIn]
    refine pairsIn_two B a r _ ?_
    split
    · intro z hz
      rcases List.mem_append.1 hz with hz | hz
      · exact h z hz
      · rw [List.mem_singleton.1 hz]; rfl
    · exact h
theorem pairsOut_two (B : Int → Int → Bool) : ∀ (r : List Int) (o : List (List Int)), (∀ z ∈ o, z.length = 2) → (∀ z ∈ pairsOut B r o, z.length = 2) ∧ (pairsOut B r o).length ≤ o.length + r.length * r.length
  | [], o, h => ⟨h, by simp [pairsOut]⟩
  | a :: r, o, h => by
    obtain ⟨h1, h2⟩ := pairsOut_two B r (pairsIn B a r o) (pairsIn_two B a r o h)
    refine ⟨h1, ?_⟩
    have h3 := pairsIn_len B a r o
    simp only [pairsOut, List.length_cons]
    have : (r.length + 1) * (r.length + 1) = r.length * r.length + r.length + r.length + 1 := by rw [Nat.add_mul, Nat.mul_add]; omega
    omega
theorem bridgesV_small (p : Int) (l : List Int) (pl : Int) : (∀ z ∈ (bridgesV p l pl).1, z.length = 2) ∧ (bridgesV p l pl).1.length ≤ 5000 := by
  unfold bridgesV
  by_cases h : isHexV p l = true
  · rw [if_pos h]
    by_cases h2 : inW pl 1 2 = true
    · rw [if_pos h2]
      obtain ⟨h3, h4⟩ := pairsOut_two (bridgeOk p l) (chosenTo (fun c => rd l c == pl) l.length) [] (fun z hz => by cases hz)
      refine ⟨h3, ?_⟩
      have h5 := Nat.le_trans (chosenTo_le (fun c => rd l c == pl) l.length) (hex_small h)
      have h6 := Nat.mul_le_mul h5 h5
      simp only [List.length_nil] at h4
      show (pairsOut (bridgeOk p l) (chosenTo (fun c => rd l c == pl) l.length) []).length ≤ 5000
      omega
    · rw [if_neg h2]
      refine ⟨?_, by simp⟩
      intro z hz
      simp at hz
  · rw [if_neg h]
    refine ⟨?_, by simp⟩
    intro z hz
    simp at hz
/-! ### laws_toInt64SS: function 101 -/
def laws_toInt64SS.l0 : Nat → List (List Int) → List (List Int) → Int → Option ((List (List Int)))
 | 0, _, _, _ => none
 | k + 1, x0, x3, x4 => if x4 < (x0.length : Int) then (if 0 ≤ x4 then ((laws_toInt64S.f k (rd_L1 x0 x4)).bind fun t531 => (if x4 < (x3.length : Int) then (laws_toInt64SS.l0 k x0 (x3.set (x4 : Int).toNat t531) (wrap64 (x4 + 1))) else (none))) else (none)) else (some x3)
def laws_toInt64SS.f (k : Nat) (l0 : List (List Int)) : Option ((List (List Int))) := if 0 ≤ (l0.length : Int) then (if ((l0.length : Int) : Int).toNat ≤ 11728124029610 then (laws_toInt64SS.l0 k l0 (List.replicate ((l0.length : Int) : Int).toNat []) 0) else (none)) else (none)
theorem laws_toInt64SS.mono_l : ∀ k, (∀ y0 y1 y2, LeO (laws_toInt64SS.l0 k y0 y1 y2) (laws_toInt64SS.l0 (k + 1) y0 y1 y2))
 | 0 => fun _ _ _ r h => by simp [laws_toInt64SS.l0] at h
 | k + 1 => by
  have ih0 := laws_toInt64SS.mono_l k
  ·intro y0 y1 y2
   unfold laws_toInt64SS.l0
   repeat' first
   | (with_reducible exact ih0 _ _ _)
   | (with_reducible exact laws_toInt64S.mono _ _)
   | (with_reducible exact LeO.refl _)
   | (with_reducible exact LeO.none _)
   | (with_reducible refine LeO.ite ?_ ?_)
   | (with_reducible refine LeO.bind ?_ (fun _ => ?_))
   | exact ih0 _ _ _
   | exact laws_toInt64S.mono _ _
   | exact LeO.none _
   | refine LeO.ite ?_ ?_
   | refine LeO.bind ?_ (fun _ => ?_)
theorem laws_toInt64SS.mono : ∀ a0 k, LeO (laws_toInt64SS.f k a0) (laws_toInt64SS.f (k + 1) a0) := by
 intro a0 k
 have ih0 := laws_toInt64SS.mono_l k
 unfold laws_toInt64SS.f
 repeat' first
   | (with_reducible exact ih0 _ _ _)
   | (with_reducible exact laws_toInt64S.mono _ _)
   | (with_reducible exact LeO.refl _)
   | (with_reducible exact LeO.none _)
   | (with_reducible refine LeO.ite ?_ ?_)
   | (with_reducible refine LeO.bind ?_ (fun _ => ?_))
   | exact ih0 _ _ _
   | exact laws_toInt64S.mono _ _
   | exact LeO.none _
   | refine LeO.ite ?_ ?_
   | refine LeO.bind ?_ (fun _ => ?_)
set_option maxHeartbeats 8000000 in
set_option maxRecDepth 100000 in
theorem laws_toInt64SS.calls (k : Nat) (A0 : Option Addr) (c0 : Nat) (l0 : List (List Int)) (r : List (List Int)) (w : World) (hr0 : Kd.C (Kd.slice 2 (Kd.int .i64)) w A0 l0.length l0) (hc0 : l0.length ≤ c0) (h : laws_toInt64SS.f k l0 = some r) :
  Calls Try.prog 101 #[.slice A0 l0.length c0] w fun e w' => ∃ v0_ : Value, e = .returned (v0_) ∧ Kd.S (Kd.slice 2 (Kd.int .i64)) 22 w' w.heap.size (fun _ => True) v0_ r ∧ Below w.heap.size w w' := by
 have HR0 := Aside0.mk hr0
 have HC0 := Aside0.mk hc0
 clear hr0 hc0
 have HB := Aside0.mk (Below.refl w.heap.size w)
 have H : (if 0 ≤ (l0.length : Int) then (if ((l0.length : Int) : Int).toNat ≤ 11728124029610 then (laws_toInt64SS.l0 k l0 (List.replicate ((l0.length : Int) : Int).toNat []) 0) else (none)) else (none)) = some r := h
 clear h
 by_cases c2 : 0 ≤ (l0.length : Int)
 ·rw [if_pos c2] at H
  have c2b0 := eq_true c2
  have c2b1 : decide (0 ≤ (l0.length : Int)) = true := decide_eq_true c2
  clear c2
  by_cases c3 : ((l0.length : Int) : Int).toNat ≤ 11728124029610
  ·rw [if_pos c3] at H
   have c3b0 := eq_true c3
   have c3b1 : decide (((l0.length : Int) : Int).toNat ≤ 11728124029610) = true := decide_eq_true c3
   clear c3
   obtain ⟨y527, hy527⟩ : ∃ y_ : List (List Int), y_ = (List.replicate ((l0.length : Int) : Int).toNat []) := ⟨_, rfl⟩
   replace H : (laws_toInt64SS.l0 k l0 y527 0) = some r := by first | (rw [hy527]; with_reducible exact H) | (have H2_ := (Option.bind_some _ _).symm.trans H; rw [hy527]; with_reducible exact H2_) | (have H2_ := (Option.bind_some _ _).symm.trans H; with_reducible exact H2_) | with_reducible exact H | (rw [hy527]; exact H) | exact H
   have Ny527 := Aside0.mk hy527
   clear hy527
   have H' := Aside0.mk H
   clear H
   go_enter Try.func101, Try.ntmps101
   go_wp2_with (first | ((with_reducible refine gate_dst (N := 7) rfl ?_); refine Kd.S_make (Kd.slice 2 (Kd.int .i64)) _ 22 rfl (N := 7) rfl 26 _ _ rfl (l0.length : Int) rfl rfl Try.underlying26 (.slice none 0 0) 24 info22 rfl (by decide) (by omega) [] (ok := fun _ => True) (okp := fun _ => True) ⟨_, rfl, Kd.R_nil _ _ _ _ _⟩ (fun _ hk => hk) trivial (of_decide_eq_true (by first | (with_reducible assumption) | assumption)) (Nat.le_trans (Nat.mul_le_mul_right _ (of_decide_eq_true (by first | (with_reducible assumption) | assumption) : (l0.length : Int).toNat ≤ 11728124029610)) (by omega)) (Below.refl _ _) (Nat.le_refl _) ?_; intro v528 w4 ho5 hb hg_ hnew_; clear hg_ hnew_; (first | rw [← Ny527.out] at ho5 | (simp only [Int.reduceToNat] at ho5; rw [← Ny527.out] at ho5)); have n0_ := Aside0.mk (Kd.S_lower ho5 (below_size (by repeat (first | (with_reducible first | exact HB.out | apply below_alloc | apply pw_below_drewN | apply below_drew1) | exact HB.out)))); have n1_ := Aside0.mk (below_step (by repeat (first | (with_reducible first | exact HB.out | apply below_alloc | apply pw_below_drewN | apply below_drew1) | exact HB.out)) hb); clear HB; have HO529 := n0_; have HB := n1_; clear n0_ n1_; clear hb ho5))
   go_loopg [4] k (fun kq v4 w' => ∃ (x3_1 : List (List Int)) (x4_1 : Int), v4 = .int .i64 x4_1 ∧ Aside0 (laws_toInt64SS.l0 kq l0 x3_1 x4_1 = some r) ∧ Aside0 (kq ≤ k) ∧ Aside0 (Kd.S (Kd.slice 2 (Kd.int .i64)) 22 w' w.heap.size (fun _ => True) v528 x3_1) ∧ Aside0 (Below w.heap.size w w'))
   case atStart => exact ⟨(y527), (0), (by first | rfl | (simp; done) | (simp [*]; done)), H', ⟨Nat.le_refl _⟩, ⟨by (with_reducible repeat (first | apply Kd.S_alloc | apply Kd.S_drewN | apply Kd.S_drew)); exact HO529.out⟩, ⟨by repeat (first | (with_reducible first | exact HB.out | apply below_alloc | apply pw_below_drewN | apply below_drew1) | exact HB.out)⟩⟩
   case round =>
    clear H'
    try clear c1
    try clear c2
    try clear c2b0
    try clear c2b1
    try clear p2
    try clear c3
    try clear c3b0
    try clear c3b1
    obtain ⟨x3_1, x4_1, rfl, HA, HK1, HO_3, HB⟩ := hrel
    cases gk with
    | zero => exact absurd HA.out (by simp [laws_toInt64SS.l0])
    | succ k1 =>
     have H := HA.out
     clear HA
     simp only [laws_toInt64SS.l0] at H
     by_cases c6 : x4_1 < (l0.length : Int)
     ·rw [if_pos c6] at H
      have c6b0 : decide (x4_1 < (l0.length : Int)) = true := decide_eq_true c6
      clear c6
      by_cases c7 : 0 ≤ x4_1
      ·rw [if_pos c7] at H
       have c7b0 : decide (0 ≤ x4_1) = true := decide_eq_true c7
       clear c7
       replace H := Option.bind_eq_some_iff.mp H
       obtain ⟨t531, A80, H⟩ := H
       replace H : (if x4_1 < (x3_1.length : Int) then (laws_toInt64SS.l0 k1 l0 (x3_1.set (x4_1 : Int).toNat t531) (wrap64 (x4_1 + 1))) else (none)) = some r := H
       have A8 := Aside0.mk A80
       clear A80
       by_cases c9 : x4_1 < (x3_1.length : Int)
       ·rw [if_pos c9] at H
        have c9b0 : decide (x4_1 < (x3_1.length : Int)) = true := decide_eq_true c9
        clear c9
        obtain ⟨y534, hy534⟩ : ∃ y_ : List (List Int), y_ = (x3_1.set (x4_1 : Int).toNat t531) := ⟨_, rfl⟩
        replace H : (laws_toInt64SS.l0 k1 l0 y534 (wrap64 (x4_1 + 1))) = some r := by first | (rw [hy534]; with_reducible exact H) | (have H2_ := (Option.bind_some _ _).symm.trans H; rw [hy534]; with_reducible exact H2_) | (have H2_ := (Option.bind_some _ _).symm.trans H; with_reducible exact H2_) | with_reducible exact H | (rw [hy534]; exact H) | exact H
        have Ny534 := Aside0.mk hy534
        clear hy534
        have H' := Aside0.mk H
        clear H
        have p530 : 0 ≤ (x4_1 : Int) := of_decide_eq_true (by first | (with_reducible assumption) | assumption)
        have q530 : x4_1 < (l0.length : Int) := of_decide_eq_true (by first | (with_reducible assumption) | assumption)
        obtain ⟨ad530, A530_0, c530_0, e530, hx530_0, hl530_0, hi530_0⟩ := at_L1 HR0.out x4_1 p530 q530
        cases e530
        replace hx530_0 := (HB.out.cell (World.block_lt_of_cell? w _ hx530_0)).trans hx530_0
        have HR530_0 := Aside0.mk hi530_0
        have HC530_0 := Aside0.mk hl530_0
        clear hi530_0 hl530_0
        replace p530 := eq_true p530
        replace q530 := eq_true q530
        go_wp2_with (first | ((with_reducible refine gate_callee (f := 34) rfl ?_); refine goesL_ (some 20) rfl rfl Try.func34 (by kernel_rfl) rfl #[.slice A530_0 (rd_L1 l0 x4_1).length c530_0] rfl (by (try simp only [List.map_toArray, List.map_cons, List.map_nil]); first | done | rfl | (simp only [List.length_drop, List.length_take]; rfl)) ?_; (with_reducible refine (laws_toInt64S.calls k1 _ _ (rd_L1 l0 x4_1) t531 _ ?side1 ?side2 A8.out).mono ?_); (case side1 => repeat (first | exact (Kd.C_below HR530_0.out HB.out) | (with_reducible refine Kd.C_alloc ?_ _) | (with_reducible refine Kd.C_drewN ?_ _) | (with_reducible refine Kd.C_drew ?_))); (case side2 => exact HC530_0.out); rintro e w11 ⟨v532, rfl, ho0, hb⟩; refine ⟨_, rfl, ?_⟩; have n0_ := Aside0.mk (Kd.S_elder' (by (with_reducible repeat (first | apply Kd.S_alloc | apply Kd.S_drewN | apply Kd.S_drew)); exact HO_3.out) (Kd.R_base ho0) hb); have n1_ := Aside0.mk (Kd.R_lower ho0 (below_size (by repeat (first | (with_reducible first | exact HB.out | apply below_alloc | apply pw_below_drewN | apply below_drew1) | exact HB.out)))); have n2_ := Aside0.mk (below_step (by repeat (first | (with_reducible first | exact HB.out | apply below_alloc | apply pw_below_drewN | apply below_drew1) | exact HB.out)) hb); clear HO_3; clear HB; have HO_3 := n0_; have HO533 := n1_; have HB := n2_; clear n0_ n1_ n2_; (try clear hb); (try clear hb2); (try clear hk); (try clear hi); (try clear ho0); have p10 : 0 ≤ (x4_1 : Int) := of_decide_eq_true (by first | (with_reducible assumption) | assumption); have q10 : (x4_1 : Int) < ((x3_1.length : Int) : Int) := of_decide_eq_true (by first | (with_reducible assumption) | assumption); obtain ⟨go10, co10, eo10, gb10, gl10, cl10, HG10⟩ := Kd.S_form HO_3.out (by omega); (first | cases eo10 | (injection eo10 with ea_ en_ ec_; (first | subst ea_ | (injection ea_ with ea_; subst ea_)); subst ec_; clear en_)); have GB10 := Aside0.mk gb10; have GG10 := Aside0.mk HG10; clear gb10 gl10 HG10; obtain ⟨_, ce10, hcl10, hM10, hcc10, hfr10, _, _⟩ := Kd.S_elem HO_3.out [] (x4_1 : Int) p10 q10; obtain ⟨ve10_0, rfl, ge10_0⟩ := hM10; have hx10_0 := hcc10 0 _ rfl; have hf10_0 := hfr10 0; (try simp only [show ((Kd.slice 2 (Kd.int .i64))).sz = 1 from rfl, Nat.mul_one, Nat.add_zero] at hx10_0); (try simp only [show ((Kd.slice 2 (Kd.int .i64))).sz = 1 from rfl, Nat.mul_one, Nat.add_zero] at hf10_0); (try clear hcl10); (try clear hcc10); (try clear hfr10); (try clear hM10); replace p10 := eq_true p10; replace q10 := eq_true q10; have n_ := Aside0.mk (Kd.S_mono (ok' := (fun k_ => some k_ ≠ (v532 : Value).ownBlock)) HO_3.out (fun k_ hk => hk.2)); clear HO_3; have HO_3 := n_; clear n_; have HX12 := Aside0.mk (show Kd.S (Kd.slice 2 (Kd.int .i64)) 22 w11 w.heap.size (fun k_ => ((fun _ => True)) k_ ∧ ¬ ((fun k_ => some k_ = (v532 : Value).ownBlock)) k_) (.slice (some ⟨go10, 0, none⟩) x3_1.length co10) x3_1 from (by (with_reducible repeat (first | apply Kd.S_alloc | apply Kd.S_drewN | apply Kd.S_drew)); exact Kd.S_mono HO_3.out (fun k_ hk => ⟨trivial, fun e_ => hk e_⟩))); obtain ⟨oki12, ce12, hcl12, hM12, hcc12, hfr12, hoki12, hH12⟩ := Kd.S_elem HX12.out [] (x4_1 : Int) (of_decide_eq_true (by first | (with_reducible assumption) | assumption)) (by have h_ : (x4_1 : Int) < ((x3_1.length : Int) : Int) := of_decide_eq_true (by first | (with_reducible assumption) | assumption); first | exact h_ | (have e_ := (Kd.S_reads' HO_3.out).1; omega) | simpa using h_); obtain ⟨ve12_0, rfl, ge12_0⟩ := hM12; have HP12 := Kd.S_seg hH12 (of_decide_eq_true (by first | (with_reducible assumption) | assumption)) (by have h_ : (x4_1 : Int) < ((x3_1.length : Int) : Int) := of_decide_eq_true (by first | (with_reducible assumption) | assumption); first | exact h_ | (have e_ := (Kd.S_reads' HO_3.out).1; omega) | simpa using h_) (seg := [v532]) (j := 0) (show 1 ≤ 1 from by decide) (x' := t531) (Kd.M_row (Kd.R_mono (Kd.R_tight rfl (Kd.R_mono (ok' := fun k_ => ((fun _ => True)) k_ ∧ k_ ≠ go10) (Kd.R_apart' (HO533.out) (Kd.S_typed HO_3.out) (by decide)) (fun k_ hk => ⟨trivial, fun e_ => (hk.2) (by rw [e_]; rfl)⟩))) (fun _ h_ => Or.inr (h_)))) (fun _ hk => hk) (fun k_ hk_ => ((Kd.R_mono (ok' := fun k_ => ((fun _ => True)) k_ ∧ k_ ≠ go10) (Kd.R_apart' (HO533.out) (Kd.S_typed HO_3.out) (by decide)) (fun k_ hk => ⟨trivial, fun e_ => (hk.2) (by rw [e_]; rfl)⟩))).1 k_ hk_.symm); have hx12_0 := hcc12 0 _ rfl; (try simp only [show ((Kd.slice 2 (Kd.int .i64))).sz = 1 from rfl, Nat.mul_one, Nat.add_zero] at hx12_0); have hf12_0 := hfr12 0; (try simp only [show ((Kd.slice 2 (Kd.int .i64))).sz = 1 from rfl, Nat.mul_one, Nat.add_zero] at hf12_0); (try clear hcl12); (try clear hcc12); (try clear hfr12); (try clear hM12); (try clear hoki12); (try clear hH12); (try simp only [show ((Kd.slice 2 (Kd.int .i64))).sz = 1 from rfl, Nat.mul_one, Nat.add_zero] at HP12)) | ((with_reducible refine gate_store (t := 22) (p := 21) rfl ?_); refine store_event (t := 22) (p := 21) (v := ?vo_w13) (w1 := (w11.setCell ⟨go10, (x4_1 : Int).toNat, none⟩ (v532))) ?hg ?ho ?hn ?hr ?_; (case ho => rfl); (case hg => rfl); (case hn => rfl); (case hr => first | (go_simp; done) | (go_simp; rfl) | (obtain ⟨_, _, hsv_⟩ := Kd.R_slice (Aside0.out ‹Aside0 (Kd.R _ _ _ _ _ v532 _)›); rw [hsv_]; go_simp; done) | (obtain ⟨_, _, hsv_, _⟩ := Kd.S_reads (Aside0.out ‹Aside0 (Kd.S _ _ _ _ _ v532 _)›); rw [hsv_]; go_simp; done)); intro w13 hw; have hg : w11.grownBy w13 (some go10) := (by rw [hw]; exact HP12.2); have hp_ : Kd.S (Kd.slice 2 (Kd.int .i64)) 22 w13 w.heap.size (fun _ => True) (.slice (some ⟨go10, 0, none⟩) x3_1.length co10) y534 := (by rw [hw, Ny534.out]; exact HP12.1); clear HP12; have n0_ := Aside0.mk (hp_); have n1_ := Aside0.mk ((by rw [hw]; exact below_set (HB.out) GB10.out : Below w.heap.size w w13)); clear HO_3; clear HB; clear HO533; have HO_3 := n0_; have HB := n1_; clear n0_ n1_; clear hg hw hp_))
        go_roundg k1
        case measure => have := HK1.out; omega
        case rel => exact ⟨(y534), (wrap64 (x4_1 + 1)), (by first | rfl | (simp; done) | (simp [*]; done)), H', ⟨by have := HK1.out; omega⟩, ⟨by (with_reducible repeat (first | apply Kd.S_alloc | apply Kd.S_drewN | apply Kd.S_drew)); exact HO_3.out⟩, ⟨by repeat (first | (with_reducible first | exact HB.out | apply below_alloc | apply pw_below_drewN | apply below_drew1) | exact HB.out)⟩⟩
       ·rw [if_neg c9] at H
        exact absurd H (by simp)
      ·rw [if_neg c7] at H
       exact absurd H (by simp)
     ·rw [if_neg c6] at H
      have c6b0 : decide (x4_1 < (l0.length : Int)) = false := decide_eq_false c6
      clear c6
      obtain rfl := Option.some.inj H
      go_wp2
      go_ret
      exact ⟨_, by first | rfl | (simp [errW_none, errW_some] <;> rfl) | (simp [*, errW_none, errW_some] <;> rfl), by (with_reducible repeat (first | apply Kd.S_alloc | apply Kd.S_drewN | apply Kd.S_drew)); exact HO_3.out, by repeat (first | (with_reducible first | exact HB.out | apply below_alloc | apply pw_below_drewN | apply below_drew1) | exact HB.out)⟩
  ·rw [if_neg c3] at H
   exact absurd H (by simp)
 ·rw [if_neg c2] at H
  exact absurd H (by simp)
/-! ### laws_szInt64SS: function 99 -/
def laws_szInt64SS.l0 : Nat → List (List Int) → Int → Int → Option (Int)
 | 0, _, _, _ => none
 | k + 1, x0, x1, x5 => if x5 < (x0.length : Int) then (if 0 ≤ x5 then ((laws_szInt64S.f (rd_L1 x0 x5) x1).bind fun t472 => (if t472 < 0 then (some (-1)) else (laws_szInt64SS.l0 k x0 t472 (wrap64 (x5 + 1))))) else (none)) else (some x1)
def laws_szInt64SS.f (k : Nat) (l0 : List (List Int)) (a1 : Int) : Option (Int) := if (wrap64 (a1 - (l0.length : Int))) < 0 then (some (-1)) else (laws_szInt64SS.l0 k l0 (wrap64 (a1 - (l0.length : Int))) 0)
theorem laws_szInt64SS.mono_l : ∀ k, (∀ y0 y1 y2, LeO (laws_szInt64SS.l0 k y0 y1 y2) (laws_szInt64SS.l0 (k + 1) y0 y1 y2))
 | 0 => fun _ _ _ r h => by simp [laws_szInt64SS.l0] at h
 | k + 1 => by
  have ih0 := laws_szInt64SS.mono_l k
  ·intro y0 y1 y2
   unfold laws_szInt64SS.l0
   repeat' first
   | (with_reducible exact ih0 _ _ _)
   | (with_reducible exact LeO.refl _)
   | (with_reducible exact LeO.none _)
   | (with_reducible refine LeO.ite ?_ ?_)
   | (with_reducible refine LeO.bind ?_ (fun _ => ?_))
   | exact ih0 _ _ _
   | exact LeO.none _
   | refine LeO.ite ?_ ?_
   | refine LeO.bind ?_ (fun _ => ?_)
theorem laws_szInt64SS.mono : ∀ a0 a1 k, LeO (laws_szInt64SS.f k a0 a1) (laws_szInt64SS.f (k + 1) a0 a1) := by
 intro a0 a1 k
 have ih0 := laws_szInt64SS.mono_l k
 unfold laws_szInt64SS.f
 repeat' first
   | (with_reducible exact ih0 _ _ _)
   | (with_reducible exact LeO.refl _)
   | (with_reducible exact LeO.none _)
   | (with_reducible refine LeO.ite ?_ ?_)
   | (with_reducible refine LeO.bind ?_ (fun _ => ?_))
   | exact ih0 _ _ _
   | exact LeO.none _
   | refine LeO.ite ?_ ?_
   | refine LeO.bind ?_ (fun _ => ?_)
set_option maxHeartbeats 8000000 in
set_option maxRecDepth 100000 in
theorem laws_szInt64SS.calls (k : Nat) (A0 : Option Addr) (c0 : Nat) (l0 : List (List Int)) (a1 : Int) (r : Int) (w : World) (hr0 : Kd.C (Kd.slice 2 (Kd.int .i64)) w A0 l0.length l0) (hc0 : l0.length ≤ c0) (h : laws_szInt64SS.f k l0 a1 = some r) :
  Calls Try.prog 99 #[.slice A0 l0.length c0, .int .i64 a1] w fun e w' => e = .returned (.int .i64 r) ∧ Drawn0 w w' := by
 have HR0 := Aside0.mk hr0
 have HC0 := Aside0.mk hc0
 clear hr0 hc0
 have H : (if (wrap64 (a1 - (l0.length : Int))) < 0 then (some (-1)) else (laws_szInt64SS.l0 k l0 (wrap64 (a1 - (l0.length : Int))) 0)) = some r := h
 clear h
 by_cases c3 : (wrap64 (a1 - (l0.length : Int))) < 0
 ·rw [if_pos c3] at H
  have c3b0 : decide ((wrap64 (a1 - (l0.length : Int))) < 0) = true := decide_eq_true c3
  clear c3
  obtain rfl := Option.some.inj H
  go_enter Try.func99, Try.ntmps99
  go_wp2
  go_ret
  exact ⟨by first | rfl | (simp; done) | (simp [*]; done), by repeat (first | exact Drawn0.refl _ | apply Drawn0.step)⟩
 ·rw [if_neg c3] at H
  have c3b0 : decide ((wrap64 (a1 - (l0.length : Int))) < 0) = false := decide_eq_false c3
  clear c3
  have H' := Aside0.mk H
  clear H
  go_enter Try.func99, Try.ntmps99
  go_wp2
  go_loopg [1, 5] k (fun kq v1 v5 w' => ∃ (x1_1 : Int) (x5_1 : Int), v1 = .int .i64 x1_1 ∧ v5 = .int .i64 x5_1 ∧ Aside0 (laws_szInt64SS.l0 kq l0 x1_1 x5_1 = some r) ∧ Aside0 (kq ≤ k) ∧ Drawn0 w w')
  case atStart => exact ⟨(wrap64 (a1 - (l0.length : Int))), (0), (by first | rfl | (simp; done) | (simp [*]; done)), (by first | rfl | (simp; done) | (simp [*]; done)), H', ⟨Nat.le_refl _⟩, by repeat (first | exact Drawn0.refl _ | apply Drawn0.step)⟩
  case round =>
   clear H'
   try clear p2
   try clear c3
   try clear c3b0
   obtain ⟨x1_1, x5_1, rfl, rfl, HA, HK1, ⟨m1, rfl⟩⟩ := hrel
   cases gk with
   | zero => exact absurd HA.out (by simp [laws_szInt64SS.l0])
   | succ k1 =>
    have H := HA.out
    clear HA
    simp only [laws_szInt64SS.l0] at H
    by_cases c4 : x5_1 < (l0.length : Int)
    ·rw [if_pos c4] at H
     have c4b0 : decide (x5_1 < (l0.length : Int)) = true := decide_eq_true c4
     clear c4
     by_cases c5 : 0 ≤ x5_1
     ·rw [if_pos c5] at H
      have c5b0 : decide (0 ≤ x5_1) = true := decide_eq_true c5
      clear c5
      replace H := Option.bind_eq_some_iff.mp H
      obtain ⟨t472, A60, H⟩ := H
      replace H : (if t472 < 0 then (some (-1)) else (laws_szInt64SS.l0 k1 l0 t472 (wrap64 (x5_1 + 1)))) = some r := H
      have A6 := Aside0.mk A60
      clear A60
      by_cases c7 : t472 < 0
      ·rw [if_pos c7] at H
       have c7b0 : decide (t472 < 0) = true := decide_eq_true c7
       clear c7
       obtain rfl := Option.some.inj H
       have p471 : 0 ≤ (x5_1 : Int) := of_decide_eq_true (by first | (with_reducible assumption) | assumption)
       have q471 : x5_1 < (l0.length : Int) := of_decide_eq_true (by first | (with_reducible assumption) | assumption)
       obtain ⟨ad471, A471_0, c471_0, e471, hx471_0, hl471_0, hi471_0⟩ := at_L1 HR0.out x5_1 p471 q471
       cases e471
       have HR471_0 := Aside0.mk hi471_0
       have HC471_0 := Aside0.mk hl471_0
       clear hi471_0 hl471_0
       replace p471 := eq_true p471
       replace q471 := eq_true q471
       go_wp2_with (first | ((with_reducible refine gate_callee (f := 39) rfl ?_); refine goesL_ (some 23) rfl rfl Try.func39 (by kernel_rfl) rfl #[.slice A471_0 (rd_L1 l0 x5_1).length c471_0, .int .i64 x1_1] rfl (by (try simp only [List.map_toArray, List.map_cons, List.map_nil]); first | done | rfl | (simp only [List.length_drop, List.length_take]; rfl)) ?_; (with_reducible refine (laws_szInt64S.calls _ _ (rd_L1 l0 x5_1) x1_1 t472 _ ?side1 ?side2 A6.out).mono ?_); (case side1 => repeat (first | exact HR471_0.out | (with_reducible refine Kd.C_alloc ?_ _) | (with_reducible refine Kd.C_drewN ?_ _) | (with_reducible refine Kd.C_drew ?_))); (case side2 => exact HC471_0.out); rintro e w' ⟨rfl, ⟨nd, rfl⟩⟩; refine ⟨_, rfl, ?_⟩))
       go_ret
       exact ⟨by first | rfl | (simp; done) | (simp [*]; done), by repeat (first | exact Drawn0.refl _ | apply Drawn0.step)⟩
      ·rw [if_neg c7] at H
       have c7b0 : decide (t472 < 0) = false := decide_eq_false c7
       clear c7
       have H' := Aside0.mk H
       clear H
       have p471 : 0 ≤ (x5_1 : Int) := of_decide_eq_true (by first | (with_reducible assumption) | assumption)
       have q471 : x5_1 < (l0.length : Int) := of_decide_eq_true (by first | (with_reducible assumption) | assumption)
       obtain ⟨ad471, A471_0, c471_0, e471, hx471_0, hl471_0, hi471_0⟩ := at_L1 HR0.out x5_1 p471 q471
       cases e471
       have HR471_0 := Aside0.mk hi471_0
       have HC471_0 := Aside0.mk hl471_0
       clear hi471_0 hl471_0
       replace p471 := eq_true p471
       replace q471 := eq_true q471
       go_wp2_with (first | ((with_reducible refine gate_callee (f := 39) rfl ?_); refine goesL_ (some 23) rfl rfl Try.func39 (by kernel_rfl) rfl #[.slice A471_0 (rd_L1 l0 x5_1).length c471_0, .int .i64 x1_1] rfl (by (try simp only [List.map_toArray, List.map_cons, List.map_nil]); first | done | rfl | (simp only [List.length_drop, List.length_take]; rfl)) ?_; (with_reducible refine (laws_szInt64S.calls _ _ (rd_L1 l0 x5_1) x1_1 t472 _ ?side1 ?side2 A6.out).mono ?_); (case side1 => repeat (first | exact HR471_0.out | (with_reducible refine Kd.C_alloc ?_ _) | (with_reducible refine Kd.C_drewN ?_ _) | (with_reducible refine Kd.C_drew ?_))); (case side2 => exact HC471_0.out); rintro e w' ⟨rfl, ⟨nd, rfl⟩⟩; refine ⟨_, rfl, ?_⟩))
       go_roundg k1
       case measure => have := HK1.out; omega
       case rel => exact ⟨(t472), (wrap64 (x5_1 + 1)), (by first | rfl | (simp; done) | (simp [*]; done)), (by first | rfl | (simp; done) | (simp [*]; done)), H', ⟨by have := HK1.out; omega⟩, by repeat (first | exact Drawn0.refl _ | apply Drawn0.step)⟩
     ·rw [if_neg c5] at H
      exact absurd H (by simp)
    ·rw [if_neg c4] at H
     have c4b0 : decide (x5_1 < (l0.length : Int)) = false := decide_eq_false c4
     clear c4
     obtain rfl := Option.some.inj H
     go_wp2
     go_ret
     exact ⟨by first | rfl | (simp; done) | (simp [*]; done), by repeat (first | exact Drawn0.refl _ | apply Drawn0.step)⟩
/-- The verifier's helpers on lists of lists: sizes, copies, equality. -/
theorem rdL_get (l : List (List Int)) (i : Nat) (h : i < l.length) : rd_L1 l (i : Int) = l[i] := by
  show l.getD ((i : Int)).toNat [] = l[i]
  rw [Int.toNat_natCast, List.getD_eq_getElem?_getD, List.getElem?_eq_getElem h]; rfl
def sumLen : List (List Int) → Int
  | [] => 0
  | x :: r => x.length + sumLen r
theorem sumLen_nonneg : ∀ l : List (List Int), 0 ≤ sumLen l
  | [] => by simp [sumLen]
  | x :: r => by have := sumLen_nonneg r; unfold sumLen; omega
theorem sumLen_mem : ∀ (l : List (List Int)) (x : List Int), x ∈ l → (x.length : Int) ≤ sumLen l
  | [], x, h => by simp at h
  | y :: r, x, h => by
    have h0 := sumLen_nonneg r
    unfold sumLen
    rcases List.mem_cons.1 h with rfl | h
    · omega
    · have := sumLen_mem r x h; omega
theorem szInt64SS_l0 (l : List (List Int)) (hl : l.length ≤ maxLen) (hx : ∀ x ∈ l, x.length ≤ maxLen) : ∀ (d i : Nat) (a : Int), i + d = l.length → 0 ≤ a → a ≤ 1048576 → Ev (fun k => laws_szInt64SS.l0 k l a i) (if a < sumLen (l.drop i) then -1 else a - sumLen (l.drop i)) := by
  intro d
  induction d with
  | zero =>
    intro i a hi h0 h1
    refine Ev.step (f := fun _ => some _) (fun k => ?_) (Ev.now _)
    simp only [laws_szInt64SS.l0]
    rw [if_neg (by omega), List.drop_of_length_le (by omega), sumLen, if_neg (by omega)]
    congr 1; omega
  | succ d ih =>
    intro i a hi h0 h1
    have hlt : i < l.length := by omega
    have hn := sumLen_nonneg (l.drop (i + 1))
    rw [List.drop_eq_getElem_cons hlt, sumLen]
    have hxl := hx _ (List.getElem_mem hlt)
    by_cases h : a < l[i].length
    · refine Ev.step (f := fun _ => some _) (fun k => ?_) (Ev.now _)
      simp only [laws_szInt64SS.l0]
      rw [if_pos (by omega), if_pos (by omega), rdL_get l i hlt, szInt64S_val _ a hxl h0 h1, if_pos h, Option.bind_some, if_pos (by omega), if_pos (by omega)]
    · have := ih (i + 1) (a - l[i].length) (by omega) (by omega) (by omega)
      have e : (if a - (l[i].length : Int) < sumLen (l.drop (i + 1)) then (-1 : Int) else a - (l[i].length : Int) - sumLen (l.drop (i + 1))) = if a < (l[i].length : Int) + sumLen (l.drop (i + 1)) then -1 else a - ((l[i].length : Int) + sumLen (l.drop (i + 1))) := by
        by_cases h2 : a < (l[i].length : Int) + sumLen (l.drop (i + 1))
        · rw [if_pos h2, if_pos (by omega)]
        · rw [if_neg h2, if_neg (by omega)]; omega
      rw [e] at this
      refine Ev.step (fun k => ?_) this
      simp only [laws_szInt64SS.l0]
      rw [if_pos (by omega), if_pos (by omega), rdL_get l i hlt, szInt64S_val _ a hxl h0 h1, if_neg h, Option.bind_some, if_neg (by omega), wrap_next hlt (by unfold maxLen at hl; omega)]
/-- The size that is left: -1, or the lists are short. -/
theorem szInt64SS_ev (l : List (List Int)) (hl : l.length ≤ maxLen) (hx : ∀ x ∈ l, x.length ≤ maxLen) (a : Int) (h0 : 0 ≤ a) (h1 : a ≤ 1048576) :
    ∃ v, Ev (fun k => laws_szInt64SS.f k l a) v ∧ (v = -1 ∨ 0 ≤ v ∧ v ≤ a ∧ (l.length : Int) ≤ a ∧ (∀ x ∈ l, (x.length : Int) ≤ a) ∧ v = a - l.length - sumLen l) := by
  have e : wrap64 (a - (l.length : Int)) = a - l.length := by unfold maxLen at hl; unfold wrap64; omega
  by_cases h : a < l.length
  · exact ⟨-1, Ev.congr (fun k => by unfold laws_szInt64SS.f; rw [e, if_pos (by omega)]) (Ev.now _), .inl rfl⟩
  · have := szInt64SS_l0 l hl hx l.length 0 (a - l.length) (by omega) (by omega) (by omega)
    rw [List.drop_zero] at this
    refine ⟨_, Ev.congr (fun k => ?_) this, ?_⟩
    · unfold laws_szInt64SS.f; rw [e, if_neg (by omega)]; rfl
    · have hn := sumLen_nonneg l
      by_cases h2 : a - (l.length : Int) < sumLen l
      · left; rw [if_pos h2]
      · right
        rw [if_neg h2]
        refine ⟨by omega, by omega, by omega, fun x hm => ?_, rfl⟩
        have := sumLen_mem l x hm
        omega
theorem toInt64SS_l0 (l : List (List Int)) (hl : l.length ≤ 1048576) (hx : ∀ x ∈ l, x.length ≤ 1048576) : ∀ (d i : Nat) (y : List (List Int)), i + d = l.length → y.length = l.length → y.take i = l.take i → Ev (fun k => laws_toInt64SS.l0 k l y i) l := by
  intro d
  induction d with
  | zero =>
    intro i y hi hyl ht
    refine Ev.step (f := fun _ => some l) (fun k => ?_) (Ev.now _)
    simp only [laws_toInt64SS.l0]
    rw [if_neg (by omega)]
    have : i = l.length := by omega
    rw [this, List.take_of_length_le (by omega), List.take_of_length_le (by omega)] at ht
    rw [ht]
  | succ d ih =>
    intro i y hi hyl ht
    have hlt : i < l.length := by omega
    have hb := hx _ (List.getElem_mem hlt)
    refine Ev.step (f := fun k => (laws_toInt64S.f k l[i]).bind fun t => laws_toInt64SS.l0 k l (y.set i t) ((i + 1 : Nat) : Int)) (fun k => ?_) (Ev.bind (toInt64S_ev l[i] (by omega)) (ih (i + 1) _ (by omega) (by simpa using hyl) (take_set_next l y i hlt hyl ht)))
    simp only [laws_toInt64SS.l0]
    rw [if_pos (by omega), if_pos (by omega), rdL_get l i hlt, wrap_next hlt (by omega), Int.toNat_natCast]
    refine congrArg _ (funext fun t => ?_)
    rw [if_pos (by omega)]
theorem toInt64SS_ev (l : List (List Int)) (hl : l.length ≤ 1048576) (hx : ∀ x ∈ l, x.length ≤ 1048576) : Ev (fun k => laws_toInt64SS.f k l) l := by
  refine Ev.congr (f := fun k => laws_toInt64SS.l0 k l (List.replicate l.length []) ((0 : Nat) : Int)) (fun k => ?_) (toInt64SS_l0 l hl hx l.length 0 _ (by omega) (by simp) (by simp))
  unfold laws_toInt64SS.f
  rw [if_pos (by omega), if_pos (by omega), Int.toNat_natCast]; rfl
theorem eqInt64SS_l0 (x y : List (List Int)) (hl : x.length = y.length) (hx : x.length ≤ 9223372036854775807) (hb : ∀ z ∈ x, z.length ≤ 9223372036854775807) : ∀ (d i : Nat), i + d = x.length → x.take i = y.take i → Ev (fun k => laws_eqInt64SS.l0 k x y i) (decide (x = y)) := by
  intro d
  induction d with
  | zero =>
    intro i hi ht
    refine Ev.step (f := fun _ => some (decide (x = y))) (fun k => ?_) (Ev.now _)
    simp only [laws_eqInt64SS.l0]
    rw [if_neg (by omega)]
    have : i = x.length := by omega
    rw [this, List.take_of_length_le (by omega), List.take_of_length_le (by omega)] at ht
    simp [ht]
  | succ d ih =>
    intro i hi ht
    have hlt : i < x.length := by omega
    have hz := eqInt64S_ev x[i] (y[i]'(by omega)) (hb _ (List.getElem_mem hlt))
    by_cases he : x[i] = y[i]'(by omega)
    · rw [decide_eq_true he] at hz
      refine Ev.step (f := fun k => (laws_eqInt64S.f k x[i] (y[i]'(by omega))).bind fun t => if t = true then laws_eqInt64SS.l0 k x y ((i + 1 : Nat) : Int) else some false) (fun k => ?_) (Ev.bind hz (Ev.congr (fun k => by rw [if_pos rfl]) (ih (i + 1) (by omega) ?_)))
      · simp only [laws_eqInt64SS.l0]
        rw [if_pos (by omega), if_pos (by omega), if_pos (by omega), wrap_next hlt (by omega), rdL_get x i hlt, rdL_get y i (by omega)]
      · rw [List.take_succ_eq_append_getElem hlt, List.take_succ_eq_append_getElem (by omega), ht, he]
    · rw [decide_eq_false he] at hz
      have hne : x ≠ y := fun h => he (by subst h; rfl)
      rw [decide_eq_false hne]
      refine Ev.step (f := fun k => (laws_eqInt64S.f k x[i] (y[i]'(by omega))).bind fun t => if t = true then laws_eqInt64SS.l0 k x y ((i + 1 : Nat) : Int) else some false) (fun k => ?_) (Ev.bind hz (Ev.congr (fun k => by rw [if_neg (by simp)]) (Ev.now _)))
      simp only [laws_eqInt64SS.l0]
      rw [if_pos (by omega), if_pos (by omega), if_pos (by omega), wrap_next hlt (by omega), rdL_get x i hlt, rdL_get y i (by omega)]
theorem eqInt64SS_ev (x y : List (List Int)) (hx : x.length ≤ 9223372036854775807) (hb : ∀ z ∈ x, z.length ≤ 9223372036854775807) : Ev (fun k => laws_eqInt64SS.f k x y) (decide (x = y)) := by
  by_cases h : x.length = y.length
  · refine Ev.congr (f := fun k => laws_eqInt64SS.l0 k x y ((0 : Nat) : Int)) (fun k => ?_) (eqInt64SS_l0 x y h hx hb x.length 0 (by omega) (by simp))
    unfold laws_eqInt64SS.f
    rw [if_pos (by omega)]; rfl
  · refine Ev.congr (f := fun _ => some (decide (x = y))) (fun k => ?_) (Ev.now _)
    unfold laws_eqInt64SS.f
    rw [if_neg (by omega)]
    have : x ≠ y := fun e => h (by rw [e])
    simp [this]
theorem eqInt64SS_self (x : List (List Int)) (hx : x.length ≤ 9223372036854775807) (hb : ∀ z ∈ x, z.length ≤ 9223372036854775807) : Ev (fun k => laws_eqInt64SS.f k x x) true := by
  have := eqInt64SS_ev x x hx hb
  simpa using this
-- What the verifier writes into results, and finds there again.
def countUp : Int → Nat → List Int
  | _, 0 => []
  | m, n + 1 => m :: countUp (m + 1) n
theorem countUp_len : ∀ (n : Nat) (m : Int), (countUp m n).length = n
  | 0, _ => rfl
  | n + 1, m => by simp [countUp, countUp_len n]
theorem countUp_get : ∀ (n : Nat) (m : Int) (i : Nat) (h : i < (countUp m n).length), (countUp m n)[i] = m + i
  | 0, m, i, h => by simp [countUp] at h
  | n + 1, m, 0, h => by simp [countUp]
  | n + 1, m, i + 1, h => by
    have := countUp_get n (m + 1) i (by simpa [countUp] using h)
    simp only [countUp, List.getElem_cons_succ]
    rw [this]; omega
theorem mark_l0 (m0 : Int) (h0 : 0 ≤ m0) : ∀ (d i : Nat) (x : List Int), i + d = x.length → m0 + x.length ≤ 4611686018427387904 → (∀ (j : Nat) (hj : j < x.length), j < i → x[j] = m0 + j) →
    Ev (fun k => laws_markInt64S.l0 k x (m0 + i) i) (m0 + x.length, countUp m0 x.length) := by
  intro d
  induction d with
  | zero =>
    intro i x hi hb hx
    have e : x = countUp m0 x.length := by
      apply List.ext_getElem
      · rw [countUp_len]
      · intro j h1 h2
        rw [hx j h1 (by omega), countUp_get]
    refine Ev.step (f := fun _ => some (m0 + x.length, countUp m0 x.length)) (fun k => ?_) (Ev.now _)
    simp only [laws_markInt64S.l0]
    rw [if_neg (by omega), ← e]
    have : i = x.length := by omega
    rw [this]
  | succ d ih =>
    intro i x hi hb hx
    have hlt : i < x.length := by omega
    have := ih (i + 1) (x.set i (m0 + i)) (by simp; omega) (by simpa using hb) (fun j hj hji => by
      rw [List.getElem_set]
      split
      · rename_i e; rw [e]
      · rename_i e; exact hx j (by simpa using hj) (by omega))
    rw [List.length_set] at this
    refine Ev.step (fun k => ?_) this
    have w1 : wrap64 (m0 + i + 1) = m0 + ((i + 1 : Nat) : Int) := by unfold wrap64; omega
    have w2 : wrap64 ((i : Int) + 1) = ((i + 1 : Nat) : Int) := by unfold wrap64; omega
    simp only [laws_markInt64S.l0]
    rw [if_pos (by omega), if_pos (by omega), w1, w2, Int.toNat_natCast]
theorem mark_ev (m : Int) (h0 : 0 ≤ m) (x : List Int) (hb : m + x.length ≤ 4611686018427387904) : Ev (fun k => laws_markInt64S.f k x m) (m + x.length, countUp m x.length) := by
  have := mark_l0 m h0 x.length 0 x (by omega) hb (fun j _ h => by omega)
  refine Ev.congr (fun k => ?_) this
  unfold laws_markInt64S.f
  simp
theorem held_l0 (m0 : Int) (h0 : 0 ≤ m0) (x : List Int) (hb : m0 + x.length ≤ 4611686018427387904) (hx : ∀ (j : Nat) (hj : j < x.length), x[j] = m0 + j) : ∀ (d i : Nat), i + d = x.length →
    Ev (fun k => laws_heldInt64S.l0 k x (m0 + i) i) (m0 + x.length) := by
  intro d
  induction d with
  | zero =>
    intro i hi
    refine Ev.step (f := fun _ => some (m0 + x.length)) (fun k => ?_) (Ev.now _)
    simp only [laws_heldInt64S.l0]
    rw [if_neg (by omega)]
    have : i = x.length := by omega
    rw [this]
  | succ d ih =>
    intro i hi
    have hlt : i < x.length := by omega
    refine Ev.step (fun k => ?_) (ih (i + 1) (by omega))
    have w1 : wrap64 (m0 + i + 1) = m0 + ((i + 1 : Nat) : Int) := by unfold wrap64; omega
    have w2 : wrap64 ((i : Int) + 1) = ((i + 1 : Nat) : Int) := by unfold wrap64; omega
    simp only [laws_heldInt64S.l0]
    rw [if_pos (by omega), if_pos (by omega), rd_get x i hlt, hx i hlt, if_pos rfl, w1, w2]
theorem held_ev (m : Int) (h0 : 0 ≤ m) (n : Nat) (hb : m + n ≤ 4611686018427387904) : Ev (fun k => laws_heldInt64S.f k (countUp m n) m) (m + n) := by
  have := held_l0 m h0 (countUp m n) (by rw [countUp_len]; exact hb) (fun j hj => countUp_get n m j hj) n 0 (by rw [countUp_len]; omega)
  rw [countUp_len] at this
  refine Ev.congr (fun k => ?_) this
  unfold laws_heldInt64S.f
  simp
-- The same, for rows of rows.
def countUpSS : Int → List (List Int) → List (List Int)
  | _, [] => []
  | m, x :: r => countUp m x.length :: countUpSS (m + x.length) r
theorem countUpSS_len : ∀ (l : List (List Int)) (m : Int), (countUpSS m l).length = l.length
  | [], _ => rfl
  | x :: r, m => by simp [countUpSS, countUpSS_len r]
theorem markSS_l0 (tot : Int) (hb : tot ≤ 4611686018427387904) : ∀ (r pre : List (List Int)) (m : Int), 0 ≤ m → m + sumLen r = tot → (pre ++ r).length ≤ 4611686018427387904 →
    Ev (fun k => laws_markInt64SS.l0 k (pre ++ r) m (pre.length : Nat)) (tot, pre ++ countUpSS m r) := by
  intro r
  induction r with
  | nil =>
    intro pre m h0 ht hl
    refine Ev.step (f := fun _ => some (tot, pre ++ [])) (fun k => ?_) (Ev.now _)
    simp only [laws_markInt64SS.l0]
    have e : m = tot := by simpa [sumLen] using ht
    rw [if_neg (by simp), e]
  | cons x r ih =>
    intro pre m h0 ht hl
    have hs : sumLen (x :: r) = x.length + sumLen r := rfl
    have hn := sumLen_nonneg r
    have hm := mark_ev m h0 x (by omega)
    have := ih (pre ++ [countUp m x.length]) (m + x.length) (by omega) (by omega) (by simpa using hl)
    have e1 : pre ++ [countUp m x.length] ++ r = (pre ++ x :: r).set pre.length (countUp m x.length) := by simp
    have e2 : pre ++ [countUp m x.length] ++ countUpSS (m + x.length) r = pre ++ countUpSS m (x :: r) := by simp [countUpSS]
    rw [e1, e2] at this
    have hlen : (pre ++ x :: r).length = pre.length + r.length + 1 := by simp; omega
    have w2 : wrap64 ((pre.length : Int) + 1) = (((pre ++ [countUp m x.length]).length : Nat) : Int) := by rw [List.length_append]; unfold wrap64; simp; omega
    refine Ev.step (f := fun k => (laws_markInt64S.f k x m).bind fun r_ => laws_markInt64SS.l0 k ((pre ++ x :: r).set pre.length r_.2) r_.1 (((pre ++ [countUp m x.length]).length : Nat) : Int)) (fun k => ?_) (Ev.bind hm this)
    simp only [laws_markInt64SS.l0]
    rw [if_pos (by omega), if_pos (by omega), Int.toNat_natCast, w2]
    have : (pre ++ x :: r).getD pre.length [] = x := by simp
    rw [this]
theorem markSS_ev (m : Int) (h0 : 0 ≤ m) (l : List (List Int)) (hb : m + sumLen l ≤ 4611686018427387904) (hl : l.length ≤ 4611686018427387904) : Ev (fun k => laws_markInt64SS.f k l m) (m + sumLen l, countUpSS m l) := by
  have := markSS_l0 (m + sumLen l) hb l [] m h0 rfl (by simpa using hl)
  exact this
theorem sumLen_bound : ∀ (l : List (List Int)), (∀ x ∈ l, x.length ≤ 1048576) → sumLen l ≤ l.length * 1048576
  | [], _ => by simp [sumLen]
  | x :: r, h => by
    have h1 := h x (by simp)
    have h2 := sumLen_bound r (fun y hy => h y (List.mem_cons_of_mem _ hy))
    have hs : sumLen (x :: r) = x.length + sumLen r := rfl
    rw [hs, List.length_cons]
    omega
theorem heldSS_l0 (tot : Int) (hb : tot ≤ 4611686018427387904) : ∀ (r : List (List Int)) (pre : List (List Int)) (m : Int), 0 ≤ m → m + sumLen r = tot → (pre ++ r).length ≤ 4611686018427387904 →
    Ev (fun k => laws_heldInt64SS.l0 k (pre ++ countUpSS m r) m (pre.length : Nat)) tot := by
  intro r
  induction r with
  | nil =>
    intro pre m h0 ht hl
    refine Ev.step (f := fun _ => some tot) (fun k => ?_) (Ev.now _)
    simp only [laws_heldInt64SS.l0]
    have e : m = tot := by simpa [sumLen] using ht
    rw [if_neg (by simp [countUpSS]), e]
  | cons x r ih =>
    intro pre m h0 ht hl
    have hs : sumLen (x :: r) = x.length + sumLen r := rfl
    have hn := sumLen_nonneg r
    have hm := held_ev m h0 x.length (by omega)
    have hlen : (pre ++ x :: r).length = pre.length + r.length + 1 := by simp; omega
    have := ih (pre ++ [countUp m x.length]) (m + x.length) (by omega) (by omega) (by simpa using hl)
    have e1 : pre ++ [countUp m x.length] ++ countUpSS (m + x.length) r = pre ++ countUpSS m (x :: r) := by simp [countUpSS]
    rw [e1] at this
    have hl2 : (pre ++ countUpSS m (x :: r)).length = pre.length + r.length + 1 := by simp [countUpSS, countUpSS_len]; omega
    have hx : rd_L1 (pre ++ countUpSS m (x :: r)) (pre.length : Nat) = countUp m x.length := by
      rw [rdL_get _ pre.length (by omega)]
      simp [countUpSS]
    have w2 : wrap64 ((pre.length : Int) + 1) = (((pre ++ [countUp m x.length]).length : Nat) : Int) := by rw [List.length_append]; unfold wrap64; simp; omega
    refine Ev.step (f := fun k => (laws_heldInt64S.f k (countUp m x.length) m).bind fun t => if t < 0 then some (-1) else laws_heldInt64SS.l0 k (pre ++ countUpSS m (x :: r)) t (((pre ++ [countUp m x.length]).length : Nat) : Int)) (fun k => ?_) (Ev.bind hm ?_)
    · simp only [laws_heldInt64SS.l0]
      rw [if_pos (by omega), if_pos (by omega), hx, w2]
    · exact Ev.congr (fun k => by rw [if_neg (by omega)]) this
theorem heldSS_ev (m : Int) (h0 : 0 ≤ m) (l : List (List Int)) (hb : m + sumLen l ≤ 4611686018427387904) (hl : l.length ≤ 4611686018427387904) : Ev (fun k => laws_heldInt64SS.f k (countUpSS m l) m) (m + sumLen l) :=
  heldSS_l0 (m + sumLen l) hb l [] m h0 rfl (by simpa using hl)
/-- The one pure statement of laws_FnExactHexBridges. -/
def laws_FnExactHexBridges.Pure : Prop := ∀ (a0_0 : Int) (l0_1 : List Int) (a1 : Int), (Lit.int .i64 a0_0).wf = true → (l0_1.length ≤ maxLen ∧ ∀ y1_ ∈ l0_1, (Lit.int .i64 y1_).wf = true) → (Lit.int .i64 a1).wf = true → ∃ k, laws_FnExactHexBridges.f k a0_0 l0_1 a1 = some true
/-- A type's readings as data are values of a kind: what an argument of that type is, whatever it holds. -/
def Rdb {α : Type} (P : Program) (t : TypeId) (d : Kd α) (wf : α → Prop) : Prop :=
  ∀ (H : Type) (enc : TypeId × Value → H) (w : World) (base : Nat) (spare : Nat → Bool) (held : Bool) (fuel : Nat) (cs : List Value) (x : DataW H × List MemPlace),
    DataW.trod enc P w base spare held fuel t cs = some x → ∃ a : α, d.K w a cs ∧ wf a
theorem Rdb.int {P : Program} {t : TypeId} {k : IntKind} (ht : P.underlying t = some (.int k)) : Rdb P t (Kd.int k) (fun n => (Lit.int k n).wf = true) := by
  intro H enc w base spare held fuel cs x h
  obtain ⟨n, rfl, _, hw⟩ := DataW.trod_int ht h
  exact ⟨n, rfl, hw⟩
theorem Rdb.bool {P : Program} {t : TypeId} (ht : P.underlying t = some .bool) : Rdb P t Kd.bool (fun _ => True) := by
  intro H enc w base spare held fuel cs x h
  obtain ⟨n, rfl, _⟩ := DataW.trod_bool ht h
  exact ⟨n, rfl, trivial⟩
theorem Rdb.string {P : Program} {t : TypeId} (ht : P.underlying t = some .string) : Rdb P t Kd.string (fun s => s.size ≤ maxLen) := by
  intro H enc w base spare held fuel cs x h
  obtain ⟨s, rfl, _, hs⟩ := DataW.trod_string ht h
  exact ⟨s, rfl, hs⟩
theorem list_choose {α β : Type} {R : Nat → α → β → Prop} : ∀ (n : Nat) (xs : List α), xs.length = n → (∀ i x, xs[i]? = some x → ∃ y, R i x y) → ∃ ys : List β, ys.length = n ∧ ∀ i x y, xs[i]? = some x → ys[i]? = some y → R i x y := by
  intro n xs
  induction xs generalizing n R with
  | nil =>
    intro hl _
    exact ⟨[], by simpa using hl, by intro i x y h; simp at h⟩
  | cons x xs ih =>
    intro hl h
    obtain ⟨y, hy⟩ := h 0 x rfl
    obtain ⟨ys, h1, h2⟩ := ih (R := fun i a b => R (i + 1) a b) (n - 1) (by simp at hl; omega) (fun i a hi => h (i + 1) a (by simpa using hi))
    refine ⟨y :: ys, by simp at hl ⊢; omega, fun i a b ha hb => ?_⟩
    cases i with
    | zero =>
      simp at ha hb
      subst ha hb
      exact hy
    | succ i => exact h2 i a b (by simpa using ha) (by simpa using hb)
theorem Rdb.slice {α : Type} {P : Program} {t e : TypeId} {d : Kd α} {wf : α → Prop} (ht : P.underlying t = some (.slice e)) (hc : P.cellsOf e = d.sz) (h1 : 0 < d.sz) (r : Rdb P e d wf) :
    Rdb P t (Kd.slice e d) (fun l => l.length ≤ maxLen ∧ ∀ x ∈ l, wf x) := by
  intro H enc w base spare held fuel cs x h
  rcases DataW.trod_slice ht h with ⟨rfl, _⟩ | ⟨a, len, cap, elems, rest, n, _, rfl, _, hb, hl, hm, hlen, hel, _, _⟩
  · exact ⟨[], ⟨none, 0, rfl, by simp, Kd.C_nil _ _⟩, by simp, by simp⟩
  · have each : ∀ i (y : DataW H × List MemPlace), elems[i]? = some y → ∃ b : α, ∃ c, w.cells? base (a.add (i * P.cellsOf e)) (P.cellsOf e) = some c ∧ d.K w b c ∧ wf b := by
      intro i y hy
      have hi : i < len := by have := (List.getElem?_eq_some_iff.1 hy).1; omega
      have h2 := hel i hi
      rw [hy, Option.bind_eq_some_iff] at h2
      obtain ⟨c, hcs, htr⟩ := h2
      obtain ⟨b, hK, hw⟩ := r H enc w base spare held n c y htr
      exact ⟨b, c, hcs, hK, hw⟩
    obtain ⟨xs, hx1, hx2⟩ := list_choose (R := fun i _ (b : α) => ∃ c, w.cells? base (a.add (i * P.cellsOf e)) (P.cellsOf e) = some c ∧ d.K w b c ∧ wf b) len elems hlen each
    have get : ∀ i b, xs[i]? = some b → ∃ c, w.cells? base (a.add (i * P.cellsOf e)) (P.cellsOf e) = some c ∧ d.K w b c ∧ wf b := by
      intro i b hb'
      have hi : i < elems.length := by have := (List.getElem?_eq_some_iff.1 hb').1; omega
      exact hx2 i _ b (List.getElem?_eq_getElem hi) hb'
    refine ⟨xs, ⟨some a, cap, by rw [hx1], by omega, ?_⟩, by omega, fun b hb' => ?_⟩
    · refine ⟨rfl, by rw [hx1]; unfold maxLen at hm; omega, fun hp => ⟨a, rfl, fun j b hj => ?_⟩⟩
      obtain ⟨c, hcs, hK, _⟩ := get j b hj
      obtain ⟨_, hcl, hcell⟩ := World.cells?_some hcs
      refine ⟨c, by rw [hcl, hc], hK, fun i u hu => ?_⟩
      have hi : i < P.cellsOf e := by have := (List.getElem?_eq_some_iff.1 hu).1; omega
      have := hcell i hi
      rw [hu] at this
      rw [Addr.add_add] at this
      rw [← hc]
      exact this
    · obtain ⟨i, hi⟩ := List.mem_iff_getElem?.1 hb'
      obtain ⟨_, _, _, hw⟩ := get i b hi
      exact hw
theorem take_all {α : Type} {cs : List α} {n : Nat} (h : cs.length = n) : cs.take n = cs := by rw [← h, List.take_length]
theorem Rdb.struct1 {α : Type} {P : Program} {t : TypeId} {f0 : Field} {d0 : Kd α} {w0 : α → Prop} (ht : P.underlying t = some (.struct #[f0])) (o0 : f0.offset = 0) (c0 : P.cellsOf f0.type = P.cellsOf t) (r0 : Rdb P f0.type d0 w0) : Rdb P t d0 w0 := by
  intro H enc w base spare held fuel cs x h
  obtain ⟨y0, n, _, hl, h0⟩ := ChangeShapes.trod_struct1 ht h
  rw [o0, List.drop_zero, c0, take_all hl] at h0
  exact r0 H enc w base spare held n cs y0 h0
theorem Rdb.struct2 {α β : Type} {P : Program} {t : TypeId} {f0 f1 : Field} {d0 : Kd α} {d1 : Kd β} {w0 : α → Prop} {w1 : β → Prop} (ht : P.underlying t = some (.struct #[f0, f1])) (o0 : f0.offset = 0) (o1 : f1.offset = P.cellsOf f0.type) (cT : P.cellsOf t = P.cellsOf f0.type + P.cellsOf f1.type)
    (r0 : Rdb P f0.type d0 w0) (r1 : Rdb P f1.type d1 w1) : Rdb P t (Kd.pair d0 d1) (fun x => w0 x.1 ∧ w1 x.2) := by
  intro H enc w base spare held fuel cs x h
  obtain ⟨y0, y1, n, _, hl, h0, h1⟩ := ChangeShapes.trod_struct2 ht h
  rw [o0, List.drop_zero] at h0
  rw [o1, List.take_of_length_le (by rw [List.length_drop, hl, cT]; omega)] at h1
  obtain ⟨a, hK0, hw0⟩ := r0 H enc w base spare held n _ y0 h0
  obtain ⟨b, hK1, hw1⟩ := r1 H enc w base spare held n _ y1 h1
  exact ⟨(a, b), ⟨_, _, (List.take_append_drop _ _).symm, hK0, hK1⟩, hw0, hw1⟩
theorem Rdb.struct3 {α β γ : Type} {P : Program} {t : TypeId} {f0 f1 f2 : Field} {d0 : Kd α} {d1 : Kd β} {d2 : Kd γ} {w0 : α → Prop} {w1 : β → Prop} {w2 : γ → Prop} (ht : P.underlying t = some (.struct #[f0, f1, f2])) (o0 : f0.offset = 0) (o1 : f1.offset = P.cellsOf f0.type)
    (o2 : f2.offset = P.cellsOf f0.type + P.cellsOf f1.type) (cT : P.cellsOf t = P.cellsOf f0.type + P.cellsOf f1.type + P.cellsOf f2.type)
    (r0 : Rdb P f0.type d0 w0) (r1 : Rdb P f1.type d1 w1) (r2 : Rdb P f2.type d2 w2) : Rdb P t (Kd.pair d0 (Kd.pair d1 d2)) (fun x => w0 x.1 ∧ w1 x.2.1 ∧ w2 x.2.2) := by
  intro H enc w base spare held fuel cs x h
  obtain ⟨xs, n, _, _, hl, hxl, hf⟩ := DataW.trod_struct ht h
  match xs, hxl with
  | [y0, y1, y2], _ =>
    have h0 : DataW.trod enc P w base spare held n f0.type ((cs.drop f0.offset).take (P.cellsOf f0.type)) = some y0 := by simpa using hf 0 f0 rfl
    have h1 : DataW.trod enc P w base spare held n f1.type ((cs.drop f1.offset).take (P.cellsOf f1.type)) = some y1 := by simpa using hf 1 f1 rfl
    have h2 : DataW.trod enc P w base spare held n f2.type ((cs.drop f2.offset).take (P.cellsOf f2.type)) = some y2 := by simpa using hf 2 f2 rfl
    rw [o0, List.drop_zero] at h0
    rw [o1] at h1
    rw [o2, List.take_of_length_le (by rw [List.length_drop, hl, cT]; omega)] at h2
    obtain ⟨a, hK0, hw0⟩ := r0 H enc w base spare held n _ y0 h0
    obtain ⟨b, hK1, hw1⟩ := r1 H enc w base spare held n _ y1 h1
    obtain ⟨c, hK2, hw2⟩ := r2 H enc w base spare held n _ y2 h2
    refine ⟨(a, b, c), ⟨_, _, (List.take_append_drop (P.cellsOf f0.type) cs).symm, hK0, _, _, ?_, hK1, hK2⟩, hw0, hw1, hw2⟩
    rw [← List.drop_drop, List.take_append_drop]
theorem Rdb.iso {α β : Type} {P : Program} {t : TypeId} {d : Kd α} {wf : α → Prop} (r : Rdb P t d wf) (f : β → α) (g : α → β) (hfg : ∀ a, f (g a) = a) : Rdb P t (Kd.iso d f) (fun b => wf (f b)) := by
  intro H enc w base spare held fuel cs x h
  obtain ⟨a, hK, hw⟩ := r H enc w base spare held fuel cs x h
  exact ⟨g a, by show d.K w (f (g a)) cs; rw [hfg]; exact hK, by show wf (f (g a)); rw [hfg]; exact hw⟩
theorem Rdb.of {α : Type} {P : Program} {t : TypeId} {d : Kd α} {wf : α → Prop} (r : Rdb P t d wf) {H : Type} {enc : TypeId × Value → H} {w : World} {base : Nat} {spare : Nat → Bool} {held : Bool} {v : Value} {x : DataW H} {ps : List MemPlace}
    (h : DataW.Trod enc P w base spare held t v x ps) : ∃ a : α, d.K w a v.cells.toList ∧ wf a := by
  obtain ⟨fuel, hf⟩ := h
  exact r H enc w base spare held fuel _ _ hf

end Go.Proofs.Ytpfhepbkgbeapaa.F
