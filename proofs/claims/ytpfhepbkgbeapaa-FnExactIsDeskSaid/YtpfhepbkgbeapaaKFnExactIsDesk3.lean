-- written by the session's program xp.py over the kit's print program, and by hand; texts joined by pack.py
import Derived.Test.YtpfhepbkgbeapaaKFnExactIsDesk2
namespace Go.Proofs.Ytpfhepbkgbeapaa.F
open Go.RowKit Go.Proofs.YtpfhepbkgbeapaaW.PrintWords Go.Proofs.YtpfhepbkgbeapaaW.PrintLast Go.Proofs.YtpfhepbkgbeapaaW.PrintMore
attribute [local go_sem] max2_int min2_int max_two min_two max_three min_three max_four min_four   -- for this text's walks alone
set_option linter.unusedVariables false
set_option linter.unusedSimpArgs false

/-! ### spec_l02Degrees: function 74 -/
mutual
def spec_l02Degrees.j0 : Nat → Bool → Int → List (List (List Int)) → Option (List Int × Bool)
 | 0, _, _, _ => none
 | k + 1, x20, x456000, x456001 => if x20 = true then (some (([] : List Int), false)) else (if 0 ≤ x456000 then (if (x456000 : Int).toNat ≤ 35184372088832 then (if (x456000 : Int).toNat ≤ 281474976710656 then (spec_l02Degrees.l0 k (List.replicate (x456000 : Int).toNat 0) (List.replicate (x456000 : Int).toNat false) 0 x456000 x456001) else (none)) else (none)) else (none))
def spec_l02Degrees.l0 : Nat → List Int → List Bool → Int → Int → List (List (List Int)) → Option (List Int × Bool)
 | 0, _, _, _, _, _ => none
 | k + 1, x4, x5, x6, x456000, x456001 => if x6 < (x456001.length : Int) then (spec_l02Degrees.l1 k x4 x5 x6 0 x456000 x456001) else (spec_l02Degrees.l3 k x4 x5 0)
def spec_l02Degrees.l1 : Nat → List Int → List Bool → Int → Int → Int → List (List (List Int)) → Option (List Int × Bool)
 | 0, _, _, _, _, _, _ => none
 | k + 1, x4, x5, x6, x7, x456000, x456001 => if 0 ≤ x6 then (if x6 < (x456001.length : Int) then (if x7 < ((rd_L5 x456001 x6).length : Int) then (if 0 ≤ x7 then (if ((rd_L1 (rd_L5 x456001 x6) x7).length : Int) < 1 then (some (([] : List Int), false)) else (spec_l02Degrees.l2 k x4 x5 x6 x7 (rd_L1 (rd_L5 x456001 x6) x7) 0 x456000 x456001)) else (none)) else (spec_l02Degrees.l0 k x4 x5 (wrap64 (x6 + 1)) x456000 x456001)) else (none)) else (none)
def spec_l02Degrees.l2 : Nat → List Int → List Bool → Int → Int → List Int → Int → Int → List (List (List Int)) → Option (List Int × Bool)
 | 0, _, _, _, _, _, _, _, _ => none
 | k + 1, x4, x5, x6, x7, x8, x9, x456000, x456001 => if x9 < (x8.length : Int) then (if 0 ≤ x9 then ((spec_l01In.f (rd x8 x9) 0 (wrap64 (x456000 - 1))).bind fun t467 => (if t467 = true then (if 0 ≤ (rd x8 x9) then (if (rd x8 x9) < (x4.length : Int) then ((some (x4.set ((rd x8 x9) : Int).toNat (wrap64 ((rd x4 (rd x8 x9)) + 1)) : List Int)).bind fun y470 => (if (rd x8 x9) < (x5.length : Int) then (if rdOf false x5 (rd x8 x9) = true then (spec_l02Degrees.l2 k y470 (x5.set ((rd x8 x9) : Int).toNat true) x6 x7 x8 (wrap64 (x9 + 1)) x456000 x456001) else (spec_l02Degrees.l2 k y470 (x5.set ((rd x8 x9) : Int).toNat ((x8.length : Int) == 1)) x6 x7 x8 (wrap64 (x9 + 1)) x456000 x456001)) else (none))) else (none)) else (none)) else (some (([] : List Int), false)))) else (none)) else (spec_l02Degrees.l1 k x4 x5 x6 (wrap64 (x7 + 1)) x456000 x456001)
def spec_l02Degrees.l3 : Nat → List Int → List Bool → Int → Option (List Int × Bool)
 | 0, _, _, _ => none
 | k + 1, x4, x5, x10 => if x10 < (x4.length : Int) then (if 0 ≤ x10 then (if (rd x4 x10) < 1 then (spec_l02Degrees.j5 k x4 x5 x10 true) else (if (rd x4 x10) > 3 then (spec_l02Degrees.j5 k x4 x5 x10 true) else (if x10 < (x5.length : Int) then (if rdOf false x5 x10 = true then (spec_l02Degrees.j5 k x4 x5 x10 (decide ((rd x4 x10) > 1))) else (spec_l02Degrees.j5 k x4 x5 x10 false)) else (none)))) else (none)) else (some (x4, true))
def spec_l02Degrees.j5 : Nat → List Int → List Bool → Int → Bool → Option (List Int × Bool)
 | 0, _, _, _, _ => none
 | k + 1, x4, x5, x10, x127 => if x127 = true then (some (([] : List Int), false)) else (if 0 ≤ x10 then (if x10 < (x5.length : Int) then (if rdOf false x5 x10 = true then (if x10 < (x4.length : Int) then (spec_l02Degrees.l3 k (x4.set (x10 : Int).toNat 0) x5 (wrap64 (x10 + 1))) else (none)) else (spec_l02Degrees.l3 k x4 x5 (wrap64 (x10 + 1)))) else (none)) else (none))
end
def spec_l02Degrees.f (k : Nat) (a0_0 : Int) (l0_1 : List (List (List Int))) : Option (List Int × Bool) := (spec_l01In.f a0_0 1 20).bind fun t456 => (if t456 = true then (spec_l02Degrees.j0 k (decide ((l0_1.length : Int) < 1)) a0_0 l0_1) else (spec_l02Degrees.j0 k true a0_0 l0_1))
theorem spec_l02Degrees.mono_l : ∀ k, (∀ y0 y1 y2, LeO (spec_l02Degrees.j0 k y0 y1 y2) (spec_l02Degrees.j0 (k + 1) y0 y1 y2)) ∧ (∀ y0 y1 y2 y3 y4, LeO (spec_l02Degrees.l0 k y0 y1 y2 y3 y4) (spec_l02Degrees.l0 (k + 1) y0 y1 y2 y3 y4)) ∧ (∀ y0 y1 y2 y3 y4 y5, LeO (spec_l02Degrees.l1 k y0 y1 y2 y3 y4 y5) (spec_l02Degrees.l1 (k + 1) y0 y1 y2 y3 y4 y5)) ∧ (∀ y0 y1 y2 y3 y4 y5 y6 y7, LeO (spec_l02Degrees.l2 k y0 y1 y2 y3 y4 y5 y6 y7) (spec_l02Degrees.l2 (k + 1) y0 y1 y2 y3 y4 y5 y6 y7)) ∧ (∀ y0 y1 y2, LeO (spec_l02Degrees.l3 k y0 y1 y2) (spec_l02Degrees.l3 (k + 1) y0 y1 y2)) ∧ (∀ y0 y1 y2 y3, LeO (spec_l02Degrees.j5 k y0 y1 y2 y3) (spec_l02Degrees.j5 (k + 1) y0 y1 y2 y3))
 | 0 => ⟨fun _ _ _ r h => by simp [spec_l02Degrees.j0] at h, fun _ _ _ _ _ r h => by simp [spec_l02Degrees.l0] at h, fun _ _ _ _ _ _ r h => by simp [spec_l02Degrees.l1] at h, fun _ _ _ _ _ _ _ _ r h => by simp [spec_l02Degrees.l2] at h, fun _ _ _ r h => by simp [spec_l02Degrees.l3] at h, fun _ _ _ _ r h => by simp [spec_l02Degrees.j5] at h⟩
 | k + 1 => by
  obtain ⟨ih0, ih1, ih2, ih3, ih4, ih5⟩ := spec_l02Degrees.mono_l k
  refine ⟨?_, ?_, ?_, ?_, ?_, ?_⟩
  ·intro y0 y1 y2
   unfold spec_l02Degrees.j0
   repeat' first
   | (with_reducible exact ih0 _ _ _)
   | (with_reducible exact ih1 _ _ _ _ _)
   | (with_reducible exact ih2 _ _ _ _ _ _)
   | (with_reducible exact ih3 _ _ _ _ _ _ _ _)
   | (with_reducible exact ih4 _ _ _)
   | (with_reducible exact ih5 _ _ _ _)
   | (with_reducible exact LeO.refl _)
   | (with_reducible exact LeO.none _)
   | (with_reducible refine LeO.ite ?_ ?_)
   | (with_reducible refine LeO.bind ?_ (fun _ => ?_))
   | exact ih0 _ _ _
   | exact ih1 _ _ _ _ _
   | exact ih2 _ _ _ _ _ _
   | exact ih3 _ _ _ _ _ _ _ _
   | exact ih4 _ _ _
   | exact ih5 _ _ _ _
   | exact LeO.none _
   | refine LeO.ite ?_ ?_
   | refine LeO.bind ?_ (fun _ => ?_)
  ·intro y0 y1 y2 y3 y4
   unfold spec_l02Degrees.l0
   repeat' first
   | (with_reducible exact ih0 _ _ _)
   | (with_reducible exact ih1 _ _ _ _ _)
   | (with_reducible exact ih2 _ _ _ _ _ _)
   | (with_reducible exact ih3 _ _ _ _ _ _ _ _)
   | (with_reducible exact ih4 _ _ _)
   | (with_reducible exact ih5 _ _ _ _)
   | (with_reducible exact LeO.refl _)
   | (with_reducible exact LeO.none _)
   | (with_reducible refine LeO.ite ?_ ?_)
   | (with_reducible refine LeO.bind ?_ (fun _ => ?_))
   | exact ih0 _ _ _
   | exact ih1 _ _ _ _ _
   | exact ih2 _ _ _ _ _ _
   | exact ih3 _ _ _ _ _ _ _ _
   | exact ih4 _ _ _
   | exact ih5 _ _ _ _
   | exact LeO.none _
   | refine LeO.ite ?_ ?_
   | refine LeO.bind ?_ (fun _ => ?_)
  ·intro y0 y1 y2 y3 y4 y5
   unfold spec_l02Degrees.l1
   repeat' first
   | (with_reducible exact ih0 _ _ _)
   | (with_reducible exact ih1 _ _ _ _ _)
   | (with_reducible exact ih2 _ _ _ _ _ _)
   | (with_reducible exact ih3 _ _ _ _ _ _ _ _)
   | (with_reducible exact ih4 _ _ _)
   | (with_reducible exact ih5 _ _ _ _)
   | (with_reducible exact LeO.refl _)
   | (with_reducible exact LeO.none _)
   | (with_reducible refine LeO.ite ?_ ?_)
   | (with_reducible refine LeO.bind ?_ (fun _ => ?_))
   | exact ih0 _ _ _
   | exact ih1 _ _ _ _ _
   | exact ih2 _ _ _ _ _ _
   | exact ih3 _ _ _ _ _ _ _ _
   | exact ih4 _ _ _
   | exact ih5 _ _ _ _
   | exact LeO.none _
   | refine LeO.ite ?_ ?_
   | refine LeO.bind ?_ (fun _ => ?_)
  ·intro y0 y1 y2 y3 y4 y5 y6 y7
   unfold spec_l02Degrees.l2
   repeat' first
   | (with_reducible exact ih0 _ _ _)
   | (with_reducible exact ih1 _ _ _ _ _)
   | (with_reducible exact ih2 _ _ _ _ _ _)
   | (with_reducible exact ih3 _ _ _ _ _ _ _ _)
   | (with_reducible exact ih4 _ _ _)
   | (with_reducible exact ih5 _ _ _ _)
   | (with_reducible exact LeO.refl _)
   | (with_reducible exact LeO.none _)
   | (with_reducible refine LeO.ite ?_ ?_)
   | (with_reducible refine LeO.bind ?_ (fun _ => ?_))
   | exact ih0 _ _ _
   | exact ih1 _ _ _ _ _
   | exact ih2 _ _ _ _ _ _
   | exact ih3 _ _ _ _ _ _ _ _
   | exact ih4 _ _ _
   | exact ih5 _ _ _ _
   | exact LeO.none _
   | refine LeO.ite ?_ ?_
   | refine LeO.bind ?_ (fun _ => ?_)
  ·intro y0 y1 y2
   unfold spec_l02Degrees.l3
   repeat' first
   | (with_reducible exact ih0 _ _ _)
   | (with_reducible exact ih1 _ _ _ _ _)
   | (with_reducible exact ih2 _ _ _ _ _ _)
   | (with_reducible exact ih3 _ _ _ _ _ _ _ _)
   | (with_reducible exact ih4 _ _ _)
   | (with_reducible exact ih5 _ _ _ _)
   | (with_reducible exact LeO.refl _)
   | (with_reducible exact LeO.none _)
   | (with_reducible refine LeO.ite ?_ ?_)
   | (with_reducible refine LeO.bind ?_ (fun _ => ?_))
   | exact ih0 _ _ _
   | exact ih1 _ _ _ _ _
   | exact ih2 _ _ _ _ _ _
   | exact ih3 _ _ _ _ _ _ _ _
   | exact ih4 _ _ _
   | exact ih5 _ _ _ _
   | exact LeO.none _
   | refine LeO.ite ?_ ?_
   | refine LeO.bind ?_ (fun _ => ?_)
  ·intro y0 y1 y2 y3
   unfold spec_l02Degrees.j5
   repeat' first
   | (with_reducible exact ih0 _ _ _)
   | (with_reducible exact ih1 _ _ _ _ _)
   | (with_reducible exact ih2 _ _ _ _ _ _)
   | (with_reducible exact ih3 _ _ _ _ _ _ _ _)
   | (with_reducible exact ih4 _ _ _)
   | (with_reducible exact ih5 _ _ _ _)
   | (with_reducible exact LeO.refl _)
   | (with_reducible exact LeO.none _)
   | (with_reducible refine LeO.ite ?_ ?_)
   | (with_reducible refine LeO.bind ?_ (fun _ => ?_))
   | exact ih0 _ _ _
   | exact ih1 _ _ _ _ _
   | exact ih2 _ _ _ _ _ _
   | exact ih3 _ _ _ _ _ _ _ _
   | exact ih4 _ _ _
   | exact ih5 _ _ _ _
   | exact LeO.none _
   | refine LeO.ite ?_ ?_
   | refine LeO.bind ?_ (fun _ => ?_)
theorem spec_l02Degrees.mono : ∀ a0 a1 k, LeO (spec_l02Degrees.f k a0 a1) (spec_l02Degrees.f (k + 1) a0 a1) := by
 intro a0 a1 k
 obtain ⟨ih0, ih1, ih2, ih3, ih4, ih5⟩ := spec_l02Degrees.mono_l k
 unfold spec_l02Degrees.f
 repeat' first
   | (with_reducible exact ih0 _ _ _)
   | (with_reducible exact ih1 _ _ _ _ _)
   | (with_reducible exact ih2 _ _ _ _ _ _)
   | (with_reducible exact ih3 _ _ _ _ _ _ _ _)
   | (with_reducible exact ih4 _ _ _)
   | (with_reducible exact ih5 _ _ _ _)
   | (with_reducible exact LeO.refl _)
   | (with_reducible exact LeO.none _)
   | (with_reducible refine LeO.ite ?_ ?_)
   | (with_reducible refine LeO.bind ?_ (fun _ => ?_))
   | exact ih0 _ _ _
   | exact ih1 _ _ _ _ _
   | exact ih2 _ _ _ _ _ _
   | exact ih3 _ _ _ _ _ _ _ _
   | exact ih4 _ _ _
   | exact ih5 _ _ _ _
   | exact LeO.none _
   | refine LeO.ite ?_ ?_
   | refine LeO.bind ?_ (fun _ => ?_)
def spec_l02Degrees.T3 : Bool × List (List Nat × List Nat) := (true, [([], []), ([0], [0]), ([1, 1], [1]), ([], []), ([3], [3]), ([4, 4], [4]), ([2, 0, 1, 2], [2]), ([5, 6, 0, 1, 2, 3, 4, 5, 6], [5])])
def spec_l02Degrees.B3 : List Nat := [0, 1, 3, 0, 8, 24, 7, 127]
theorem spec_l02Degrees.tab3 : rtab .any (opsOf Try.f74 3) = spec_l02Degrees.T3 := by kernel_rfl
theorem spec_l02Degrees.bits3 : waitsOk spec_l02Degrees.T3.2 spec_l02Degrees.B3 = true := by kernel_rfl
def spec_l02Degrees.T16 : Bool × List (List Nat × List Nat) := (true, [([], []), ([], []), ([0, 1], [0, 1]), ([2], [2]), ([], []), ([4], [4]), ([5], [5]), ([3, 6], [3, 6]), ([7], [7])])
def spec_l02Degrees.B16 : List Nat := [0, 0, 3, 7, 0, 16, 48, 127, 255]
theorem spec_l02Degrees.tab16 : rtab .any (opsOf Try.f74 16) = spec_l02Degrees.T16 := by kernel_rfl
theorem spec_l02Degrees.bits16 : waitsOk spec_l02Degrees.T16.2 spec_l02Degrees.B16 = true := by kernel_rfl
def spec_l02Degrees.T19 : Bool × List (List Nat × List Nat) := (true, [([], []), ([], []), ([], []), ([1, 2], [1, 2]), ([3], [3]), ([], []), ([], []), ([], []), ([6, 7], [6, 7]), ([8], [8]), ([5, 9], [5, 9]), ([10], [10]), ([11], [11]), ([12], [12]), ([13, 12], [12, 13]), ([14, 12], [12, 14]), ([12, 15], [12, 15]), ([0, 4, 0, 1, 2, 3, 4, 5, 6, 7, 8, 9, 10, 11, 12, 13, 14, 15, 16], [0, 4]), ([17, 16, 12, 0, 1, 2, 3, 4, 5, 6, 7, 8, 9, 10, 11, 12, 13, 14, 15, 16], [16, 17])])
def spec_l02Degrees.B19 : List Nat := [0, 0, 0, 6, 14, 0, 0, 0, 192, 448, 992, 2016, 4064, 8160, 16352, 32736, 65504, 131071, 262143]
theorem spec_l02Degrees.tab19 : rtab .any (opsOf Try.f74 19) = spec_l02Degrees.T19 := by kernel_rfl
theorem spec_l02Degrees.bits19 : waitsOk spec_l02Degrees.T19.2 spec_l02Degrees.B19 = true := by kernel_rfl
set_option maxHeartbeats 8000000 in
set_option maxRecDepth 100000 in
theorem spec_l02Degrees.calls (k : Nat) (a0_0 : Int) (A0_1 : Option Addr) (c0_1 : Nat) (l0_1 : List (List (List Int))) (r1 : List Int) (r2 : Bool) (w : World) (hr0_1 : Kd.C (Kd.slice 22 (Kd.slice 2 (Kd.int .i64))) w A0_1 l0_1.length l0_1) (hc0_1 : l0_1.length ≤ c0_1) (h : spec_l02Degrees.f k a0_0 l0_1 = some (r1, r2)) :
  Calls Try.prog 74 #[.agg #[.int .i64 a0_0, .slice A0_1 l0_1.length c0_1]] w fun e w' => ∃ v0_ : Value, e = .returned (.tuple #[v0_, .bool r2]) ∧ Kd.R (Kd.int .i64) 2 w' w.heap.size (fun _ => True) v0_ r1 ∧ Below w.heap.size w w' := by
 have hu43 := Try.underlying43
 have HR0_1 := Aside0.mk hr0_1
 have HC0_1 := Aside0.mk hc0_1
 clear hr0_1 hc0_1
 have HB := Aside0.mk (Below.refl w.heap.size w)
 have H : ((spec_l01In.f a0_0 1 20).bind fun t456 => (if t456 = true then (spec_l02Degrees.j0 k (decide ((l0_1.length : Int) < 1)) a0_0 l0_1) else (spec_l02Degrees.j0 k true a0_0 l0_1))) = some (r1, r2) := h
 clear h
 have HC2 := Aside0.mk H
 clear H
 go_enter Try.func74, Try.ntmps74
 go_upto_region 1 with (first | ((with_reducible refine gate_dst (N := 1) rfl ?_); (try (refine gate_guard (by rfl) ?_; dsimp only)); refine box_event ?hg (N := 1) ?hd (cs := #[.int .i64 a0_0, .slice A0_1 l0_1.length c0_1]) (t := 43) ?hr ?_; (case hd => rfl); (case hg => rfl); (case hr => first | (go_simp; done) | (go_simp; rfl)); intro gb455 hg w3 hbox hb; have n0_ := Aside0.mk (below_step hb_ hb); have n1_ := Aside0.mk (hbox); have n2_ := Aside0.mk ((by rw [hg]; exact (below_size hb_) : w.heap.size ≤ gb455)); have n3_ := Aside0.mk ((by rw [hg]; exact (below_size hb_) : w.heap.size ≤ gb455)); clear HB; have HB := n0_; have BK455 := n1_; have GW455 := n2_; have GE455 := n3_; clear n0_ n1_ n2_ n3_; clear hb hbox hg))
 (try simp only [Act.put, List.setIfInBounds_toArray, List.set_cons_zero, List.set_cons_succ])
 go_cut [20] (fun v20 wc => ∃ (kq : Nat) (x20_1 : Bool), v20 = .bool x20_1 ∧ Aside0 (spec_l02Degrees.j0 kq x20_1 a0_0 l0_1 = some (r1, r2)) ∧ Aside0 (kq ≤ k) ∧ Aside0 (wc.heap[gb455]? = some (.cells #[.int .i64 a0_0, (.slice A0_1 l0_1.length c0_1)] 43 (0, 0))) ∧ Aside0 (Below w.heap.size w wc))
 case first =>
  have H := HC2.out
  clear HC2
  replace H := Option.bind_eq_some_iff.mp H
  obtain ⟨t456, A40, H⟩ := H
  replace H : (if t456 = true then (spec_l02Degrees.j0 k (decide ((l0_1.length : Int) < 1)) a0_0 l0_1) else (spec_l02Degrees.j0 k true a0_0 l0_1)) = some (r1, r2) := H
  have A4 := Aside0.mk A40
  clear A40
  by_cases c5 : t456 = true
  ·subst c5
   have H1 : (spec_l02Degrees.j0 k (decide ((l0_1.length : Int) < 1)) a0_0 l0_1) = some (r1, r2) := by rw [if_pos rfl] at H; exact H
   clear H
   have H := H1
   clear H1
   have H' := Aside0.mk H
   clear H
   have hcz6_0 : w3.cell? ⟨gb455, 0, none⟩ = some (.int .i64 a0_0) := (blk_cell BK455.out 0).trans rfl
   have hcz6_1 : w3.cell? ⟨gb455, 1, none⟩ = some (.slice A0_1 l0_1.length c0_1) := (blk_cell BK455.out 1).trans rfl
   have hfz6_0 := blk_frozen BK455.out 0
   have hfz6_1 := blk_frozen BK455.out 1
   go_wp2_with (first | ((with_reducible refine gate_callee (f := 41) rfl ?_); refine goesA_ (some 13) rfl rfl Try.func41 (by kernel_rfl) rfl #[.int .i64 a0_0, .int .i64 1, .int .i64 20] rfl ?_; (with_reducible refine (spec_l01In.calls a0_0 1 20 true _ A4.out).mono ?_); rintro e w' ⟨rfl, ⟨nd, rfl⟩⟩; refine ⟨_, rfl, ?_⟩))
   go_meet
   case rel => exact ⟨_, (decide ((l0_1.length : Int) < 1)), (by first | rfl | (simp; done) | (simp [*]; done)), H', ⟨by first | omega | exact Nat.le_refl _⟩, ⟨by (with_reducible repeat (first | refine blk_drewN ?_ _ | refine blk_drew ?_ | refine blk_alloc ?_ _)); exact BK455.out⟩, ⟨by repeat (first | (with_reducible first | exact HB.out | apply below_alloc | apply pw_below_drewN | apply below_drew1 | refine below_set ?_ GE455.out) | exact HB.out)⟩⟩
  ·replace c5 := Bool.eq_false_iff.mpr c5
   subst c5
   have H1 : (spec_l02Degrees.j0 k true a0_0 l0_1) = some (r1, r2) := by rw [if_neg (show ¬ (false = true) by decide)] at H; exact H
   clear H
   have H := H1
   clear H1
   have H' := Aside0.mk H
   clear H
   have hcz7_0 : w3.cell? ⟨gb455, 0, none⟩ = some (.int .i64 a0_0) := (blk_cell BK455.out 0).trans rfl
   have hcz7_1 : w3.cell? ⟨gb455, 1, none⟩ = some (.slice A0_1 l0_1.length c0_1) := (blk_cell BK455.out 1).trans rfl
   have hfz7_0 := blk_frozen BK455.out 0
   have hfz7_1 := blk_frozen BK455.out 1
   go_wp2_with (first | ((with_reducible refine gate_callee (f := 41) rfl ?_); refine goesA_ (some 13) rfl rfl Try.func41 (by kernel_rfl) rfl #[.int .i64 a0_0, .int .i64 1, .int .i64 20] rfl ?_; (with_reducible refine (spec_l01In.calls a0_0 1 20 false _ A4.out).mono ?_); rintro e w' ⟨rfl, ⟨nd, rfl⟩⟩; refine ⟨_, rfl, ?_⟩))
   go_meet
   case rel => exact ⟨_, (true), (by first | rfl | (simp; done) | (simp [*]; done)), H', ⟨by first | omega | exact Nat.le_refl _⟩, ⟨by (with_reducible repeat (first | refine blk_drewN ?_ _ | refine blk_drew ?_ | refine blk_alloc ?_ _)); exact BK455.out⟩, ⟨by repeat (first | (with_reducible first | exact HB.out | apply below_alloc | apply pw_below_drewN | apply below_drew1 | refine below_set ?_ GE455.out) | exact HB.out)⟩⟩
 case rest =>
  clear HC2
  (try clear p2); (try clear c4); (try clear c5); (try clear c7); (try clear hcz6_0); (try clear hcz6_1); (try clear hcz7_0); (try clear hcz7_1); (try clear hfz6_0); (try clear hfz6_1); (try clear hfz7_0); (try clear hfz7_1)
  obtain ⟨kq, x20_1, rfl, HA, HJ1, BK455, HB⟩ := hcut
  cases kq with
  | zero => exact absurd HA.out (by simp [spec_l02Degrees.j0])
  | succ kj1 =>
   have H := HA.out
   clear HA
   simp only [spec_l02Degrees.j0] at H
   by_cases c8 : x20_1 = true
   ·subst c8
    have H1 : (some (([] : List Int), false)) = some (r1, r2) := by rw [if_pos rfl] at H; exact H
    clear H
    have H := H1
    clear H1
    simp only [Option.some.injEq, Prod.mk.injEq] at H
    obtain ⟨rfl, rfl⟩ := H
    go_wp2
    go_ret2
    exact ⟨_, by first | rfl | (simp [errW_none, errW_some] <;> rfl) | (simp [*, errW_none, errW_some] <;> rfl), by first | exact Kd.R_nil _ _ _ _ _ | exact Kd.N_nil _ _ _ _ _ | exact Kd.V_nil _ _ _ _ _ | exact Kd.Q_nil _ _ _ _ _ | exact Kd.S_nil _ _ _ _ _, by repeat (first | (with_reducible first | exact HB.out | apply below_alloc | apply pw_below_drewN | apply below_drew1 | refine below_set ?_ GE455.out) | exact HB.out)⟩
   ·replace c8 := Bool.eq_false_iff.mpr c8
    subst c8
    have H1 : (if 0 ≤ a0_0 then (if (a0_0 : Int).toNat ≤ 35184372088832 then (if (a0_0 : Int).toNat ≤ 281474976710656 then (spec_l02Degrees.l0 kj1 (List.replicate (a0_0 : Int).toNat 0) (List.replicate (a0_0 : Int).toNat false) 0 a0_0 l0_1) else (none)) else (none)) else (none)) = some (r1, r2) := by rw [if_neg (show ¬ (false = true) by decide)] at H; exact H
    clear H
    have H := H1
    clear H1
    by_cases c9 : 0 ≤ a0_0
    ·rw [if_pos c9] at H
     have c9b0 := eq_true c9
     have c9b1 : decide (0 ≤ a0_0) = true := decide_eq_true c9
     clear c9
     by_cases c10 : (a0_0 : Int).toNat ≤ 35184372088832
     ·rw [if_pos c10] at H
      have c10b0 := eq_true c10
      have c10b1 : decide ((a0_0 : Int).toNat ≤ 35184372088832) = true := decide_eq_true c10
      clear c10
      obtain ⟨y457, hy457⟩ : ∃ y_ : List Int, y_ = (List.replicate (a0_0 : Int).toNat 0) := ⟨_, rfl⟩
      replace H : (if (a0_0 : Int).toNat ≤ 281474976710656 then (spec_l02Degrees.l0 kj1 y457 (List.replicate (a0_0 : Int).toNat false) 0 a0_0 l0_1) else (none)) = some (r1, r2) := by first | (rw [hy457]; with_reducible exact H) | (have H2_ := (Option.bind_some _ _).symm.trans H; rw [hy457]; with_reducible exact H2_) | (have H2_ := (Option.bind_some _ _).symm.trans H; with_reducible exact H2_) | with_reducible exact H | (rw [hy457]; exact H) | exact H
      have Ny457 := Aside0.mk hy457
      clear hy457
      by_cases c11 : (a0_0 : Int).toNat ≤ 281474976710656
      ·rw [if_pos c11] at H
       have c11b0 := eq_true c11
       have c11b1 : decide ((a0_0 : Int).toNat ≤ 281474976710656) = true := decide_eq_true c11
       clear c11
       obtain ⟨y460, hy460⟩ : ∃ y_ : List Bool, y_ = (List.replicate (a0_0 : Int).toNat false) := ⟨_, rfl⟩
       replace H : (spec_l02Degrees.l0 kj1 y457 y460 0 a0_0 l0_1) = some (r1, r2) := by first | (rw [hy460]; with_reducible exact H) | (have H2_ := (Option.bind_some _ _).symm.trans H; rw [hy460]; with_reducible exact H2_) | (have H2_ := (Option.bind_some _ _).symm.trans H; with_reducible exact H2_) | with_reducible exact H | (rw [hy460]; exact H) | exact H
       have Ny460 := Aside0.mk hy460
       clear hy460
       have H' := Aside0.mk H
       clear H
       try go_wp2
       have n0_ := Aside0.mk (blk_drew BK455.out)
       have n1_ := Aside0.mk (below_drew1 HB.out)
       clear BK455
       clear HB
       have BK455 := n0_
       have HB := n1_
       clear n0_ n1_
       refine start_ (n := 8) (S := fun w' => w'.cell? ⟨gb455, 0, none⟩ = some (.int .i64 a0_0) ∧ w'.cell? ⟨gb455, 1, none⟩ = some (.slice A0_1 l0_1.length c0_1)) (ds := []) #[false, false, false, false, false, false, false, false] (by kernel_rfl) rfl rfl ⟨(blk_cell BK455.out 0).trans rfl, (blk_cell BK455.out 1).trans rfl⟩ (fun hHeld => ?_); refine with_tabW spec_l02Degrees.tab3 spec_l02Degrees.bits3 (fun HT_ HW_ => ?_)
       generalize wc.drew = w12 at BK455 HB hHeld ⊢
       refine pure_ (i := 0) (N := some 21) (v := ?_) (a' := ?_) #[true, false, false, false, false, false, false, false] rfl rfl (any_of HT_.out (by kernel_rfl)) (fun _ _ _ h => h) (Or.inl ⟨by rfl, ?_⟩) ?_ ?_
       rotate_left; (· (intro w'; go_simp; with_reducible rfl)); rotate_left; (· (simp only [Act.put, List.setIfInBounds_toArray, List.set_cons_zero, List.set_cons_succ, i64_w, i32_w]; rfl))
       refine pure_ (i := 3) (N := some 24) (v := ?_) (a' := ?_) #[true, false, false, true, false, false, false, false] rfl rfl (any_of HT_.out (by kernel_rfl)) (fun _ _ _ h => h) (Or.inl ⟨by rfl, ?_⟩) ?_ ?_
       rotate_left; (· (intro w'; go_simp; with_reducible rfl)); rotate_left; (· (simp only [Act.put, List.setIfInBounds_toArray, List.set_cons_zero, List.set_cons_succ, i64_w, i32_w]; rfl))
       refine take_ (i := 1) (N := some 22) (v := ?_) (a' := ?_) #[true, true, false, true, false, false, false, false] rfl rfl (take_ofW HT_.out HW_.out (by kernel_rfl)) (fun _ _ _ h => h) (Or.inl ⟨by rfl, ?_⟩) hHeld ?_ ?_
       rotate_left; (· (rintro w' ⟨s0, s1⟩; go_simp; with_reducible rfl)); rotate_left; (· (simp only [Act.put, List.setIfInBounds_toArray, List.set_cons_zero, List.set_cons_succ, i64_w, i32_w]; rfl))
       refine take_ (i := 4) (N := some 25) (v := ?_) (a' := ?_) #[true, true, false, true, true, false, false, false] rfl rfl (take_ofW HT_.out HW_.out (by kernel_rfl)) (fun _ _ _ h => h) (Or.inl ⟨by rfl, ?_⟩) hHeld ?_ ?_
       rotate_left; (· (rintro w' ⟨s0, s1⟩; go_simp; with_reducible rfl)); rotate_left; (· (simp only [Act.put, List.setIfInBounds_toArray, List.set_cons_zero, List.set_cons_succ, i64_w, i32_w]; rfl))
       refine join_ (σ := Value × Value) 1 #[true, true, true, true, true, true, true, false] (fun s_ => [(23, s_.1), (26, s_.2), (4, s_.1)]) (fun s_ w' => (w'.cell? ⟨gb455, 0, none⟩ = some (.int .i64 a0_0) ∧ w'.cell? ⟨gb455, 1, none⟩ = some (.slice A0_1 l0_1.length c0_1)) ∧ (Kd.R (Kd.int .i64) 2 w' w.heap.size (fun _ => True) s_.1 y457) ∧ (Kd.R Kd.bool 4 w' w.heap.size (fun _ => True) s_.2 y460) ∧ (w'.heap[gb455]? = some (.cells #[.int .i64 a0_0, .slice A0_1 l0_1.length c0_1] 43 (0, 0))) ∧ (Below w.heap.size w w')) ?_ ?_
       rotate_left
       ·intro hCont
        refine two_ (i := 2) (j := 5) (Ni := some 23) (Nj := some 26) #[true, true, true, true, true, false, false, false] #[true, true, false, true, true, true, false, false] rfl rfl rfl rfl (two_of HT_.out (by kernel_rfl)) (by decide) (by decide) (fun K hK => ?_) (fun K hK => ?_)
        ·skip
         refine Kd.R_make_step (Kd.int .i64) _ 2 (by rfl) (N := 23) rfl 22 _ _ rfl a0_0 rfl rfl Try.underlying22 (.int .i64 0) 8 info2 rfl (by decide) (by omega) 0 (ok := fun _ => True) (okp := fun _ => True) rfl (fun _ hk => hk) trivial (oda) (Nat.le_trans (Nat.mul_le_mul_right _ (oda : a0_0.toNat ≤ 35184372088832)) (by omega)) (Below.refl _ _) (Nat.le_refl _) ?_
         intro v458 w13 ho14 hb hg_ hnew_
         clear hg_ hnew_
         (first | rw [← Ny457.out] at ho14 | (simp only [Int.reduceToNat] at ho14; rw [← Ny457.out] at ho14))
         have n0_ := Aside0.mk (Kd.R_lower ho14 (below_size (by repeat (first | (with_reducible first | exact HB.out | apply below_alloc | apply pw_below_drewN | apply below_drew1 | refine below_set ?_ GE455.out) | exact HB.out))))
         have n1_ := Aside0.mk (blk_below (g := gb455) (o := .cells #[.int .i64 a0_0, .slice A0_1 l0_1.length c0_1] 43 (0, 0)) (by (with_reducible repeat (first | refine blk_drewN ?_ _ | refine blk_drew ?_ | refine blk_alloc ?_ _)); exact BK455.out) hb)
         have n2_ := Aside0.mk (below_step (by repeat (first | (with_reducible first | exact HB.out | apply below_alloc | apply pw_below_drewN | apply below_drew1 | refine below_set ?_ GE455.out) | exact HB.out)) hb)
         clear BK455
         clear HB
         have HO459 := n0_
         have BK455 := n1_
         have HB := n2_
         clear n0_ n1_ n2_
         clear hb ho14
         refine hK.out _ _ ⟨(blk_cell BK455.out 0).trans rfl, (blk_cell BK455.out 1).trans rfl⟩ (fun hHeld => ?_)
         clear hK K
         refine norm_ (a' := ?_) ?_ ?_
         rotate_left
         ·show Act.put _ (some 23) _ = _
          simp only [Act.put, List.setIfInBounds_toArray, List.set_cons_zero, List.set_cons_succ, i64_w, i32_w]
          rfl
         refine pure_ (i := 6) (N := some 4) (v := ?_) (a' := ?_) #[true, true, true, true, true, false, true, false] rfl rfl (any_of HT_.out (by kernel_rfl)) (fun _ _ _ h => h) (Or.inl ⟨by rfl, ?_⟩) ?_ ?_
         rotate_left; (· (intro w'; go_simp; with_reducible rfl)); rotate_left; (· (simp only [Act.put, List.setIfInBounds_toArray, List.set_cons_zero, List.set_cons_succ, i64_w, i32_w]; rfl))
         refine one_ (i := 5) (N := some 26) #[true, true, true, true, true, true, true, false] rfl rfl (one_of HT_.out (by kernel_rfl)) (by decide) (fun K hK => ?_)
         refine Kd.R_make_step Kd.bool _ 4 (by rfl) (N := 26) rfl 118 _ _ rfl a0_0 rfl rfl Try.underlying118 (.bool false) 1 info4 rfl (by decide) (by omega) false (ok := fun _ => True) (okp := fun _ => True) rfl (fun _ hk => hk) trivial (oda) (Nat.le_trans (Nat.mul_le_mul_right _ (oda : a0_0.toNat ≤ 281474976710656)) (by omega)) (Below.refl _ _) (Nat.le_refl _) ?_
         intro v461 w15 ho16 hb hg_ hnew_
         clear hg_ hnew_
         (first | rw [← Ny460.out] at ho16 | (simp only [Int.reduceToNat] at ho16; rw [← Ny460.out] at ho16))
         have n0_ := Aside0.mk (Kd.R_below (by (with_reducible repeat (first | apply Kd.R_alloc | apply Kd.R_drewN | apply Kd.R_drew)); exact HO459.out) hb)
         have n1_ := Aside0.mk (Kd.R_lower ho16 (below_size (by repeat (first | (with_reducible first | exact HB.out | apply below_alloc | apply pw_below_drewN | apply below_drew1 | refine below_set ?_ GE455.out) | exact HB.out))))
         have n2_ := Aside0.mk (blk_below (g := gb455) (o := .cells #[.int .i64 a0_0, .slice A0_1 l0_1.length c0_1] 43 (0, 0)) (by (with_reducible repeat (first | refine blk_drewN ?_ _ | refine blk_drew ?_ | refine blk_alloc ?_ _)); exact BK455.out) hb)
         have n3_ := Aside0.mk (below_step (by repeat (first | (with_reducible first | exact HB.out | apply below_alloc | apply pw_below_drewN | apply below_drew1 | refine below_set ?_ GE455.out) | exact HB.out)) hb)
         clear HO459
         clear BK455
         clear HB
         have HO459 := n0_
         have HO462 := n1_
         have BK455 := n2_
         have HB := n3_
         clear n0_ n1_ n2_ n3_
         clear hb ho16
         refine hK.out _ _ ⟨(blk_cell BK455.out 0).trans rfl, (blk_cell BK455.out 1).trans rfl⟩ (fun hHeld => ?_)
         clear hK K
         refine norm_ (a' := ?_) ?_ ?_
         rotate_left
         ·show Act.put _ (some 26) _ = _
          simp only [Act.put, List.setIfInBounds_toArray, List.set_cons_zero, List.set_cons_succ, i64_w, i32_w]
          rfl
         exact norm_ (by simp only [putAll, Act.put, List.setIfInBounds_toArray, List.set_cons_zero, List.set_cons_succ]) (hCont (v458, v461) _ ⟨hHeld, (by (with_reducible repeat (first | apply Kd.R_alloc | apply Kd.R_drewN | apply Kd.R_drew)); exact HO459.out), (by (with_reducible repeat (first | apply Kd.R_alloc | apply Kd.R_drewN | apply Kd.R_drew)); exact HO462.out), (by (with_reducible repeat (first | refine blk_drewN ?_ _ | refine blk_drew ?_ | refine blk_alloc ?_ _)); exact BK455.out), (by repeat (first | (with_reducible first | exact HB.out | apply below_alloc | apply pw_below_drewN | apply below_drew1 | refine below_set ?_ GE455.out) | exact HB.out))⟩)
        ·skip
         refine Kd.R_make_step Kd.bool _ 4 (by rfl) (N := 26) rfl 118 _ _ rfl a0_0 rfl rfl Try.underlying118 (.bool false) 1 info4 rfl (by decide) (by omega) false (ok := fun _ => True) (okp := fun _ => True) rfl (fun _ hk => hk) trivial (oda) (Nat.le_trans (Nat.mul_le_mul_right _ (oda : a0_0.toNat ≤ 281474976710656)) (by omega)) (Below.refl _ _) (Nat.le_refl _) ?_
         intro v461 w13 ho14 hb hg_ hnew_
         clear hg_ hnew_
         (first | rw [← Ny460.out] at ho14 | (simp only [Int.reduceToNat] at ho14; rw [← Ny460.out] at ho14))
         have n0_ := Aside0.mk (Kd.R_lower ho14 (below_size (by repeat (first | (with_reducible first | exact HB.out | apply below_alloc | apply pw_below_drewN | apply below_drew1 | refine below_set ?_ GE455.out) | exact HB.out))))
         have n1_ := Aside0.mk (blk_below (g := gb455) (o := .cells #[.int .i64 a0_0, .slice A0_1 l0_1.length c0_1] 43 (0, 0)) (by (with_reducible repeat (first | refine blk_drewN ?_ _ | refine blk_drew ?_ | refine blk_alloc ?_ _)); exact BK455.out) hb)
         have n2_ := Aside0.mk (below_step (by repeat (first | (with_reducible first | exact HB.out | apply below_alloc | apply pw_below_drewN | apply below_drew1 | refine below_set ?_ GE455.out) | exact HB.out)) hb)
         clear BK455
         clear HB
         have HO462 := n0_
         have BK455 := n1_
         have HB := n2_
         clear n0_ n1_ n2_
         clear hb ho14
         refine hK.out _ _ ⟨(blk_cell BK455.out 0).trans rfl, (blk_cell BK455.out 1).trans rfl⟩ (fun hHeld => ?_)
         clear hK K
         refine norm_ (a' := ?_) ?_ ?_
         rotate_left
         ·show Act.put _ (some 26) _ = _
          simp only [Act.put, List.setIfInBounds_toArray, List.set_cons_zero, List.set_cons_succ, i64_w, i32_w]
          rfl
         refine one_ (i := 2) (N := some 23) #[true, true, true, true, true, true, false, false] rfl rfl (one_of HT_.out (by kernel_rfl)) (by decide) (fun K hK => ?_)
         refine Kd.R_make_step (Kd.int .i64) _ 2 (by rfl) (N := 23) rfl 22 _ _ rfl a0_0 rfl rfl Try.underlying22 (.int .i64 0) 8 info2 rfl (by decide) (by omega) 0 (ok := fun _ => True) (okp := fun _ => True) rfl (fun _ hk => hk) trivial (oda) (Nat.le_trans (Nat.mul_le_mul_right _ (oda : a0_0.toNat ≤ 35184372088832)) (by omega)) (Below.refl _ _) (Nat.le_refl _) ?_
         intro v458 w15 ho16 hb hg_ hnew_
         clear hg_ hnew_
         (first | rw [← Ny457.out] at ho16 | (simp only [Int.reduceToNat] at ho16; rw [← Ny457.out] at ho16))
         have n0_ := Aside0.mk (Kd.R_below (by (with_reducible repeat (first | apply Kd.R_alloc | apply Kd.R_drewN | apply Kd.R_drew)); exact HO462.out) hb)
         have n1_ := Aside0.mk (Kd.R_lower ho16 (below_size (by repeat (first | (with_reducible first | exact HB.out | apply below_alloc | apply pw_below_drewN | apply below_drew1 | refine below_set ?_ GE455.out) | exact HB.out))))
         have n2_ := Aside0.mk (blk_below (g := gb455) (o := .cells #[.int .i64 a0_0, .slice A0_1 l0_1.length c0_1] 43 (0, 0)) (by (with_reducible repeat (first | refine blk_drewN ?_ _ | refine blk_drew ?_ | refine blk_alloc ?_ _)); exact BK455.out) hb)
         have n3_ := Aside0.mk (below_step (by repeat (first | (with_reducible first | exact HB.out | apply below_alloc | apply pw_below_drewN | apply below_drew1 | refine below_set ?_ GE455.out) | exact HB.out)) hb)
         clear HO462
         clear BK455
         clear HB
         have HO462 := n0_
         have HO459 := n1_
         have BK455 := n2_
         have HB := n3_
         clear n0_ n1_ n2_ n3_
         clear hb ho16
         refine hK.out _ _ ⟨(blk_cell BK455.out 0).trans rfl, (blk_cell BK455.out 1).trans rfl⟩ (fun hHeld => ?_)
         clear hK K
         refine norm_ (a' := ?_) ?_ ?_
         rotate_left
         ·show Act.put _ (some 23) _ = _
          simp only [Act.put, List.setIfInBounds_toArray, List.set_cons_zero, List.set_cons_succ, i64_w, i32_w]
          rfl
         refine pure_ (i := 6) (N := some 4) (v := ?_) (a' := ?_) #[true, true, true, true, true, true, true, false] rfl rfl (any_of HT_.out (by kernel_rfl)) (fun _ _ _ h => h) (Or.inl ⟨by rfl, ?_⟩) ?_ ?_
         rotate_left; (· (intro w'; go_simp; with_reducible rfl)); rotate_left; (· (simp only [Act.put, List.setIfInBounds_toArray, List.set_cons_zero, List.set_cons_succ, i64_w, i32_w]; rfl))
         exact norm_ (by simp only [putAll, Act.put, List.setIfInBounds_toArray, List.set_cons_zero, List.set_cons_succ]) (hCont (v458, v461) _ ⟨hHeld, (by (with_reducible repeat (first | apply Kd.R_alloc | apply Kd.R_drewN | apply Kd.R_drew)); exact HO459.out), (by (with_reducible repeat (first | apply Kd.R_alloc | apply Kd.R_drewN | apply Kd.R_drew)); exact HO462.out), (by (with_reducible repeat (first | refine blk_drewN ?_ _ | refine blk_drew ?_ | refine blk_alloc ?_ _)); exact BK455.out), (by repeat (first | (with_reducible first | exact HB.out | apply below_alloc | apply pw_below_drewN | apply below_drew1 | refine below_set ?_ GE455.out) | exact HB.out))⟩)
       rintro ⟨v458, v461⟩ w17 ⟨hS_, h0_, h1_, h2_, h3_⟩
       have n0_ : Aside0 (Kd.R (Kd.int .i64) 2 w17 w.heap.size (fun _ => True) v458 y457) := ⟨h0_⟩
       have n1_ : Aside0 (Kd.R Kd.bool 4 w17 w.heap.size (fun _ => True) v461 y460) := ⟨h1_⟩
       have n2_ : Aside0 (w17.heap[gb455]? = some (.cells #[.int .i64 a0_0, .slice A0_1 l0_1.length c0_1] 43 (0, 0))) := ⟨h2_⟩
       have n3_ : Aside0 (Below w.heap.size w w17) := ⟨h3_⟩
       clear BK455
       clear HB
       clear h0_ h1_ h2_ h3_
       have HO459 := n0_
       have HO462 := n1_
       have BK455 := n2_
       have HB := n3_
       clear n0_ n1_ n2_ n3_
       have hHeld : w17.cell? ⟨gb455, 0, none⟩ = some (.int .i64 a0_0) ∧ w17.cell? ⟨gb455, 1, none⟩ = some (.slice A0_1 l0_1.length c0_1) := hS_
       refine norm_ (a' := ?_) ?_ ?_
       rotate_left
       ·simp only [putAll, Act.put, List.setIfInBounds_toArray, List.set_cons_zero, List.set_cons_succ]
        rfl
       refine pure_ (i := 7) (N := some 5) (v := ?_) (a' := ?_) #[true, true, true, true, true, true, true, true] rfl rfl (any_of HT_.out (by kernel_rfl)) (fun _ _ _ h => h) (Or.inl ⟨by rfl, ?_⟩) ?_ ?_
       rotate_left; (· (intro w'; go_simp; with_reducible rfl)); rotate_left; (· (simp only [Act.put, List.setIfInBounds_toArray, List.set_cons_zero, List.set_cons_succ, i64_w, i32_w]; rfl))
       refine done_ (done_of HT_.out (by kernel_rfl)) ?_
       try go_wp2
       go_loopg [6] kj1 (fun kq v6 w' => ∃ (x4_2 : List Int) (x5_2 : List Bool) (x6_2 : Int), v6 = .int .i64 x6_2 ∧ Aside0 (spec_l02Degrees.l0 kq x4_2 x5_2 x6_2 a0_0 l0_1 = some (r1, r2)) ∧ Aside0 (kq ≤ kj1) ∧ Aside0 (Kd.R (Kd.int .i64) 2 w' w.heap.size (fun _ => True) v458 x4_2) ∧ Aside0 (Kd.R Kd.bool 4 w' w.heap.size (fun _ => True) v461 x5_2) ∧ Aside0 (w'.heap[gb455]? = some (.cells #[.int .i64 a0_0, (.slice A0_1 l0_1.length c0_1)] 43 (0, 0))) ∧ Aside0 (Below w.heap.size w w'))
       case atStart => exact ⟨(y457), (y460), (0), (by first | rfl | (simp; done) | (simp [*]; done)), H', ⟨Nat.le_refl _⟩, ⟨by (with_reducible repeat (first | apply Kd.R_alloc | apply Kd.R_drewN | apply Kd.R_drew)); exact HO459.out⟩, ⟨by (with_reducible repeat (first | apply Kd.R_alloc | apply Kd.R_drewN | apply Kd.R_drew)); exact HO462.out⟩, ⟨by (with_reducible repeat (first | refine blk_drewN ?_ _ | refine blk_drew ?_ | refine blk_alloc ?_ _)); exact BK455.out⟩, ⟨by repeat (first | (with_reducible first | exact HB.out | apply below_alloc | apply pw_below_drewN | apply below_drew1 | refine below_set ?_ GE455.out) | exact HB.out)⟩⟩
       case round =>
        clear H'
        (try clear c1); (try clear p2); (try clear c4); (try clear c5); (try clear c7); (try clear c8); (try clear c9); (try clear c9b0); (try clear c9b1); (try clear c10); (try clear c10b0); (try clear c10b1); (try clear c11); (try clear c11b0); (try clear c11b1); (try clear hcz6_0); (try clear hcz6_1); (try clear hcz7_0); (try clear hcz7_1); (try clear hfz6_0); (try clear hfz6_1); (try clear hfz7_0); (try clear hfz7_1); (try clear p2)
        obtain ⟨x4_2, x5_2, x6_2, rfl, HA, HK2, HO_4, HO_5, BK455, HB⟩ := hrel
        cases gk with
        | zero => exact absurd HA.out (by simp [spec_l02Degrees.l0])
        | succ k2 =>
         have H := HA.out
         clear HA
         simp only [spec_l02Degrees.l0] at H
         by_cases c18 : x6_2 < (l0_1.length : Int)
         ·rw [if_pos c18] at H
          have c18b0 : decide (x6_2 < (l0_1.length : Int)) = true := decide_eq_true c18
          clear c18
          have H' := Aside0.mk H
          clear H
          have hcz19_0 : wr.cell? ⟨gb455, 0, none⟩ = some (.int .i64 a0_0) := (blk_cell BK455.out 0).trans rfl
          have hcz19_1 : wr.cell? ⟨gb455, 1, none⟩ = some (.slice A0_1 l0_1.length c0_1) := (blk_cell BK455.out 1).trans rfl
          have hfz19_0 := blk_frozen BK455.out 0
          have hfz19_1 := blk_frozen BK455.out 1
          go_wp2
          go_loopg [7] k2 (fun kq v7 w' => ∃ (x4_3 : List Int) (x5_3 : List Bool) (x7_3 : Int), v7 = .int .i64 x7_3 ∧ Aside0 (spec_l02Degrees.l1 kq x4_3 x5_3 x6_2 x7_3 a0_0 l0_1 = some (r1, r2)) ∧ Aside0 (kq ≤ k2) ∧ Aside0 (Kd.R (Kd.int .i64) 2 w' w.heap.size (fun _ => True) v458 x4_3) ∧ Aside0 (Kd.R Kd.bool 4 w' w.heap.size (fun _ => True) v461 x5_3) ∧ Aside0 (w'.heap[gb455]? = some (.cells #[.int .i64 a0_0, (.slice A0_1 l0_1.length c0_1)] 43 (0, 0))) ∧ Aside0 (Below w.heap.size w w'))
          case atStart => exact ⟨(x4_2), (x5_2), (0), (by first | rfl | (simp; done) | (simp [*]; done)), H', ⟨Nat.le_refl _⟩, ⟨by (with_reducible repeat (first | apply Kd.R_alloc | apply Kd.R_drewN | apply Kd.R_drew)); exact HO_4.out⟩, ⟨by (with_reducible repeat (first | apply Kd.R_alloc | apply Kd.R_drewN | apply Kd.R_drew)); exact HO_5.out⟩, ⟨by (with_reducible repeat (first | refine blk_drewN ?_ _ | refine blk_drew ?_ | refine blk_alloc ?_ _)); exact BK455.out⟩, ⟨by repeat (first | (with_reducible first | exact HB.out | apply below_alloc | apply pw_below_drewN | apply below_drew1 | refine below_set ?_ GE455.out) | exact HB.out)⟩⟩
          case round =>
           clear H'
           (try clear c1); (try clear p2); (try clear c4); (try clear c5); (try clear c7); (try clear c8); (try clear c9); (try clear c9b0); (try clear c9b1); (try clear c10); (try clear c10b0); (try clear c10b1); (try clear c11); (try clear c11b0); (try clear c11b1); (try clear c18); (try clear c18b0); (try clear hcz19_0); (try clear hcz19_1); (try clear hcz6_0); (try clear hcz6_1); (try clear hcz7_0); (try clear hcz7_1); (try clear hfz19_0); (try clear hfz19_1); (try clear hfz6_0); (try clear hfz6_1); (try clear hfz7_0); (try clear hfz7_1); (try clear p2)
           obtain ⟨x4_3, x5_3, x7_3, rfl, HA, HK3, HO_4, HO_5, BK455, HB⟩ := hrel
           cases gk with
           | zero => exact absurd HA.out (by simp [spec_l02Degrees.l1])
           | succ k3 =>
            have H := HA.out
            clear HA
            simp only [spec_l02Degrees.l1] at H
            by_cases c20 : 0 ≤ x6_2
            ·rw [if_pos c20] at H
             have c20b0 : decide (0 ≤ x6_2) = true := decide_eq_true c20
             clear c20
             by_cases c21 : x6_2 < (l0_1.length : Int)
             ·rw [if_pos c21] at H
              have c21b0 : decide (x6_2 < (l0_1.length : Int)) = true := decide_eq_true c21
              clear c21
              by_cases c22 : x7_3 < ((rd_L5 l0_1 x6_2).length : Int)
              ·rw [if_pos c22] at H
               have c22b0 : decide (x7_3 < ((rd_L5 l0_1 x6_2).length : Int)) = true := decide_eq_true c22
               clear c22
               by_cases c23 : 0 ≤ x7_3
               ·rw [if_pos c23] at H
                have c23b0 : decide (0 ≤ x7_3) = true := decide_eq_true c23
                clear c23
                by_cases c24 : ((rd_L1 (rd_L5 l0_1 x6_2) x7_3).length : Int) < 1
                ·rw [if_pos c24] at H
                 have c24b0 : decide (((rd_L1 (rd_L5 l0_1 x6_2) x7_3).length : Int) < 1) = true := decide_eq_true c24
                 have c24b1 : decide ((rd_L1 (rd_L5 l0_1 x6_2) x7_3).length < 1) = true := decide_eq_true (by omega)
                 clear c24
                 simp only [Option.some.injEq, Prod.mk.injEq] at H
                 obtain ⟨rfl, rfl⟩ := H
                 have hcz25_0 : wr.cell? ⟨gb455, 0, none⟩ = some (.int .i64 a0_0) := (blk_cell BK455.out 0).trans rfl
                 have hcz25_1 : wr.cell? ⟨gb455, 1, none⟩ = some (.slice A0_1 l0_1.length c0_1) := (blk_cell BK455.out 1).trans rfl
                 have hfz25_0 := blk_frozen BK455.out 0
                 have hfz25_1 := blk_frozen BK455.out 1
                 have p463 : 0 ≤ (x6_2 : Int) := oda
                 have q463 : x6_2 < (l0_1.length : Int) := oda
                 obtain ⟨ad463, A463_0, c463_0, e463, hx463_0, hl463_0, hi463_0⟩ := at_L5 HR0_1.out x6_2 p463 q463
                 cases e463
                 replace hx463_0 := (HB.out.cell (World.block_lt_of_cell? w _ hx463_0)).trans hx463_0
                 have HR463_0 := Aside0.mk hi463_0
                 have HC463_0 := Aside0.mk hl463_0
                 clear hi463_0 hl463_0
                 replace p463 := eq_true p463
                 replace q463 := eq_true q463
                 have p464 : 0 ≤ (x6_2 : Int) := oda
                 have q464 : x6_2 < (l0_1.length : Int) := oda
                 obtain ⟨ad464, A464_0, c464_0, e464, hx464_0, hl464_0, hi464_0⟩ := at_L5 HR0_1.out x6_2 p464 q464
                 obtain rfl : ad463 = ad464 := (by injection e464)
                 replace hx464_0 := (HB.out.cell (World.block_lt_of_cell? w _ hx464_0)).trans hx464_0
                 have HR464_0 := Aside0.mk hi464_0
                 have HC464_0 := Aside0.mk hl464_0
                 clear hi464_0 hl464_0
                 replace p464 := eq_true p464
                 replace q464 := eq_true q464
                 have ea_ := Option.some.inj (hx463_0.symm.trans hx464_0)
                 injection ea_ with ea_ en_ ec_
                 subst ea_
                 subst ec_
                 clear en_
                 have p465 : 0 ≤ (x7_3 : Int) := oda
                 have q465 : x7_3 < ((rd_L5 l0_1 x6_2).length : Int) := oda
                 obtain ⟨ad465, A465_0, c465_0, e465, hx465_0, hl465_0, hi465_0⟩ := at_L1 HR464_0.out x7_3 p465 q465
                 cases e465
                 replace hx465_0 := (HB.out.cell (World.block_lt_of_cell? w _ hx465_0)).trans hx465_0
                 have HR465_0 := Aside0.mk hi465_0
                 have HC465_0 := Aside0.mk hl465_0
                 clear hi465_0 hl465_0
                 replace p465 := eq_true p465
                 replace q465 := eq_true q465
                 go_wp2
                 go_ret2
                 exact ⟨_, by first | rfl | (simp [errW_none, errW_some] <;> rfl) | (simp [*, errW_none, errW_some] <;> rfl), by first | exact Kd.R_nil _ _ _ _ _ | exact Kd.N_nil _ _ _ _ _ | exact Kd.V_nil _ _ _ _ _ | exact Kd.Q_nil _ _ _ _ _ | exact Kd.S_nil _ _ _ _ _, by repeat (first | (with_reducible first | exact HB.out | apply below_alloc | apply pw_below_drewN | apply below_drew1 | refine below_set ?_ GE455.out) | exact HB.out)⟩
                ·rw [if_neg c24] at H
                 have c24b0 : decide (((rd_L1 (rd_L5 l0_1 x6_2) x7_3).length : Int) < 1) = false := decide_eq_false c24
                 have c24b1 : decide ((rd_L1 (rd_L5 l0_1 x6_2) x7_3).length < 1) = false := decide_eq_false (by omega)
                 clear c24
                 have H' := Aside0.mk H
                 clear H
                 have hcz26_0 : wr.cell? ⟨gb455, 0, none⟩ = some (.int .i64 a0_0) := (blk_cell BK455.out 0).trans rfl
                 have hcz26_1 : wr.cell? ⟨gb455, 1, none⟩ = some (.slice A0_1 l0_1.length c0_1) := (blk_cell BK455.out 1).trans rfl
                 have hfz26_0 := blk_frozen BK455.out 0
                 have hfz26_1 := blk_frozen BK455.out 1
                 have p463 : 0 ≤ (x6_2 : Int) := oda
                 have q463 : x6_2 < (l0_1.length : Int) := oda
                 obtain ⟨ad463, A463_0, c463_0, e463, hx463_0, hl463_0, hi463_0⟩ := at_L5 HR0_1.out x6_2 p463 q463
                 cases e463
                 replace hx463_0 := (HB.out.cell (World.block_lt_of_cell? w _ hx463_0)).trans hx463_0
                 have HR463_0 := Aside0.mk hi463_0
                 have HC463_0 := Aside0.mk hl463_0
                 clear hi463_0 hl463_0
                 replace p463 := eq_true p463
                 replace q463 := eq_true q463
                 have p464 : 0 ≤ (x6_2 : Int) := oda
                 have q464 : x6_2 < (l0_1.length : Int) := oda
                 obtain ⟨ad464, A464_0, c464_0, e464, hx464_0, hl464_0, hi464_0⟩ := at_L5 HR0_1.out x6_2 p464 q464
                 obtain rfl : ad463 = ad464 := (by injection e464)
                 replace hx464_0 := (HB.out.cell (World.block_lt_of_cell? w _ hx464_0)).trans hx464_0
                 have HR464_0 := Aside0.mk hi464_0
                 have HC464_0 := Aside0.mk hl464_0
                 clear hi464_0 hl464_0
                 replace p464 := eq_true p464
                 replace q464 := eq_true q464
                 have ea_ := Option.some.inj (hx463_0.symm.trans hx464_0)
                 injection ea_ with ea_ en_ ec_
                 subst ea_
                 subst ec_
                 clear en_
                 have p465 : 0 ≤ (x7_3 : Int) := oda
                 have q465 : x7_3 < ((rd_L5 l0_1 x6_2).length : Int) := oda
                 obtain ⟨ad465, A465_0, c465_0, e465, hx465_0, hl465_0, hi465_0⟩ := at_L1 HR464_0.out x7_3 p465 q465
                 cases e465
                 replace hx465_0 := (HB.out.cell (World.block_lt_of_cell? w _ hx465_0)).trans hx465_0
                 have HR465_0 := Aside0.mk hi465_0
                 have HC465_0 := Aside0.mk hl465_0
                 clear hi465_0 hl465_0
                 replace p465 := eq_true p465
                 replace q465 := eq_true q465
                 go_wp2
                 go_loopg [9] k3 (fun kq v9 w' => ∃ (x4_4 : List Int) (x5_4 : List Bool) (x9_4 : Int), v9 = .int .i64 x9_4 ∧ Aside0 (spec_l02Degrees.l2 kq x4_4 x5_4 x6_2 x7_3 (rd_L1 (rd_L5 l0_1 x6_2) x7_3) x9_4 a0_0 l0_1 = some (r1, r2)) ∧ Aside0 (kq ≤ k3) ∧ Aside0 (Kd.R (Kd.int .i64) 2 w' w.heap.size (fun _ => True) v458 x4_4) ∧ Aside0 (Kd.R Kd.bool 4 w' w.heap.size (fun _ => True) v461 x5_4) ∧ Aside0 (w'.heap[gb455]? = some (.cells #[.int .i64 a0_0, (.slice (some ad463) l0_1.length c0_1)] 43 (0, 0))) ∧ Aside0 (Below w.heap.size w w'))
                 case atStart => exact ⟨(x4_3), (x5_3), (0), (by first | rfl | (simp; done) | (simp [*]; done)), H', ⟨Nat.le_refl _⟩, ⟨by (with_reducible repeat (first | apply Kd.R_alloc | apply Kd.R_drewN | apply Kd.R_drew)); exact HO_4.out⟩, ⟨by (with_reducible repeat (first | apply Kd.R_alloc | apply Kd.R_drewN | apply Kd.R_drew)); exact HO_5.out⟩, ⟨by (with_reducible repeat (first | refine blk_drewN ?_ _ | refine blk_drew ?_ | refine blk_alloc ?_ _)); exact BK455.out⟩, ⟨by repeat (first | (with_reducible first | exact HB.out | apply below_alloc | apply pw_below_drewN | apply below_drew1 | refine below_set ?_ GE455.out) | exact HB.out)⟩⟩
                 case round =>
                  clear H'
                  (try clear c1); (try clear c2); (try clear p2); (try clear c4); (try clear p4); (try clear q4); (try clear hx4); (try clear c5); (try clear c7); (try clear c8); (try clear c9); (try clear c9b0); (try clear c9b1); (try clear c10); (try clear c10b0); (try clear c10b1); (try clear c11); (try clear c11b0); (try clear c11b1); (try clear c18); (try clear c18b0); (try clear c20); (try clear c20b0); (try clear c21); (try clear c21b0); (try clear c22); (try clear c22b0); (try clear c23); (try clear c23b0); (try clear c24); (try clear c24b0); (try clear c24b1); (try clear hcz19_0); (try clear hcz19_1); (try clear hcz25_0); (try clear hcz25_1); (try clear hcz26_0); (try clear hcz26_1); (try clear hcz6_0); (try clear hcz6_1); (try clear hcz7_0); (try clear hcz7_1); (try clear hfz19_0); (try clear hfz19_1); (try clear hfz25_0); (try clear hfz25_1); (try clear hfz26_0); (try clear hfz26_1); (try clear hfz6_0); (try clear hfz6_1); (try clear hfz7_0); (try clear hfz7_1); (try clear hx463_0); (try clear hx464_0); (try clear hx465_0); (try clear p2); (try clear p463); (try clear p464); (try clear p465); (try clear q463); (try clear q464); (try clear q465)
                  obtain ⟨x4_4, x5_4, x9_4, rfl, HA, HK4, HO_4, HO_5, BK455, HB⟩ := hrel
                  cases gk with
                  | zero => exact absurd HA.out (by simp [spec_l02Degrees.l2])
                  | succ k4 =>
                   have H := HA.out
                   clear HA
                   simp only [spec_l02Degrees.l2] at H
                   by_cases c27 : x9_4 < ((rd_L1 (rd_L5 l0_1 x6_2) x7_3).length : Int)
                   ·rw [if_pos c27] at H
                    have c27b0 : decide (x9_4 < ((rd_L1 (rd_L5 l0_1 x6_2) x7_3).length : Int)) = true := decide_eq_true c27
                    clear c27
                    by_cases c28 : 0 ≤ x9_4
                    ·rw [if_pos c28] at H
                     have c28b0 : decide (0 ≤ x9_4) = true := decide_eq_true c28
                     clear c28
                     replace H := Option.bind_eq_some_iff.mp H
                     obtain ⟨t467, A290, H⟩ := H
                     replace H : (if t467 = true then (if 0 ≤ (rd (rd_L1 (rd_L5 l0_1 x6_2) x7_3) x9_4) then (if (rd (rd_L1 (rd_L5 l0_1 x6_2) x7_3) x9_4) < (x4_4.length : Int) then ((some (x4_4.set ((rd (rd_L1 (rd_L5 l0_1 x6_2) x7_3) x9_4) : Int).toNat (wrap64 ((rd x4_4 (rd (rd_L1 (rd_L5 l0_1 x6_2) x7_3) x9_4)) + 1)) : List Int)).bind fun y470 => (if (rd (rd_L1 (rd_L5 l0_1 x6_2) x7_3) x9_4) < (x5_4.length : Int) then (if rdOf false x5_4 (rd (rd_L1 (rd_L5 l0_1 x6_2) x7_3) x9_4) = true then (spec_l02Degrees.l2 k4 y470 (x5_4.set ((rd (rd_L1 (rd_L5 l0_1 x6_2) x7_3) x9_4) : Int).toNat true) x6_2 x7_3 (rd_L1 (rd_L5 l0_1 x6_2) x7_3) (wrap64 (x9_4 + 1)) a0_0 l0_1) else (spec_l02Degrees.l2 k4 y470 (x5_4.set ((rd (rd_L1 (rd_L5 l0_1 x6_2) x7_3) x9_4) : Int).toNat (((rd_L1 (rd_L5 l0_1 x6_2) x7_3).length : Int) == 1)) x6_2 x7_3 (rd_L1 (rd_L5 l0_1 x6_2) x7_3) (wrap64 (x9_4 + 1)) a0_0 l0_1)) else (none))) else (none)) else (none)) else (some (([] : List Int), false))) = some (r1, r2) := H
                     have A29 := Aside0.mk A290
                     clear A290
                     by_cases c30 : t467 = true
                     ·subst c30
                      have H1 : (if 0 ≤ (rd (rd_L1 (rd_L5 l0_1 x6_2) x7_3) x9_4) then (if (rd (rd_L1 (rd_L5 l0_1 x6_2) x7_3) x9_4) < (x4_4.length : Int) then ((some (x4_4.set ((rd (rd_L1 (rd_L5 l0_1 x6_2) x7_3) x9_4) : Int).toNat (wrap64 ((rd x4_4 (rd (rd_L1 (rd_L5 l0_1 x6_2) x7_3) x9_4)) + 1)) : List Int)).bind fun y470 => (if (rd (rd_L1 (rd_L5 l0_1 x6_2) x7_3) x9_4) < (x5_4.length : Int) then (if rdOf false x5_4 (rd (rd_L1 (rd_L5 l0_1 x6_2) x7_3) x9_4) = true then (spec_l02Degrees.l2 k4 y470 (x5_4.set ((rd (rd_L1 (rd_L5 l0_1 x6_2) x7_3) x9_4) : Int).toNat true) x6_2 x7_3 (rd_L1 (rd_L5 l0_1 x6_2) x7_3) (wrap64 (x9_4 + 1)) a0_0 l0_1) else (spec_l02Degrees.l2 k4 y470 (x5_4.set ((rd (rd_L1 (rd_L5 l0_1 x6_2) x7_3) x9_4) : Int).toNat (((rd_L1 (rd_L5 l0_1 x6_2) x7_3).length : Int) == 1)) x6_2 x7_3 (rd_L1 (rd_L5 l0_1 x6_2) x7_3) (wrap64 (x9_4 + 1)) a0_0 l0_1)) else (none))) else (none)) else (none)) = some (r1, r2) := by rw [if_pos rfl] at H; exact H
                      clear H
                      have H := H1
                      clear H1
                      by_cases c31 : 0 ≤ (rd (rd_L1 (rd_L5 l0_1 x6_2) x7_3) x9_4)
                      ·rw [if_pos c31] at H
                       have c31b0 : decide (0 ≤ (rd (rd_L1 (rd_L5 l0_1 x6_2) x7_3) x9_4)) = true := decide_eq_true c31
                       clear c31
                       by_cases c32 : (rd (rd_L1 (rd_L5 l0_1 x6_2) x7_3) x9_4) < (x4_4.length : Int)
                       ·rw [if_pos c32] at H
                        have c32b0 : decide ((rd (rd_L1 (rd_L5 l0_1 x6_2) x7_3) x9_4) < (x4_4.length : Int)) = true := decide_eq_true c32
                        clear c32
                        obtain ⟨y470, hy470⟩ : ∃ y_ : List Int, y_ = (x4_4.set ((rd (rd_L1 (rd_L5 l0_1 x6_2) x7_3) x9_4) : Int).toNat (wrap64 ((rd x4_4 (rd (rd_L1 (rd_L5 l0_1 x6_2) x7_3) x9_4)) + 1))) := ⟨_, rfl⟩
                        replace H : (if (rd (rd_L1 (rd_L5 l0_1 x6_2) x7_3) x9_4) < (x5_4.length : Int) then (if rdOf false x5_4 (rd (rd_L1 (rd_L5 l0_1 x6_2) x7_3) x9_4) = true then (spec_l02Degrees.l2 k4 y470 (x5_4.set ((rd (rd_L1 (rd_L5 l0_1 x6_2) x7_3) x9_4) : Int).toNat true) x6_2 x7_3 (rd_L1 (rd_L5 l0_1 x6_2) x7_3) (wrap64 (x9_4 + 1)) a0_0 l0_1) else (spec_l02Degrees.l2 k4 y470 (x5_4.set ((rd (rd_L1 (rd_L5 l0_1 x6_2) x7_3) x9_4) : Int).toNat (((rd_L1 (rd_L5 l0_1 x6_2) x7_3).length : Int) == 1)) x6_2 x7_3 (rd_L1 (rd_L5 l0_1 x6_2) x7_3) (wrap64 (x9_4 + 1)) a0_0 l0_1)) else (none)) = some (r1, r2) := by first | (rw [hy470]; with_reducible exact H) | (have H2_ := (Option.bind_some _ _).symm.trans H; rw [hy470]; with_reducible exact H2_) | (have H2_ := (Option.bind_some _ _).symm.trans H; with_reducible exact H2_) | with_reducible exact H | (rw [hy470]; exact H) | exact H
                        have Ny470 := Aside0.mk hy470
                        clear hy470
                        by_cases c34 : (rd (rd_L1 (rd_L5 l0_1 x6_2) x7_3) x9_4) < (x5_4.length : Int)
                        ·rw [if_pos c34] at H
                         have c34b0 : decide ((rd (rd_L1 (rd_L5 l0_1 x6_2) x7_3) x9_4) < (x5_4.length : Int)) = true := decide_eq_true c34
                         clear c34
                         obtain ⟨bq35, hbq35⟩ : ∃ b_ : Bool, b_ = (rdOf false x5_4 (rd (rd_L1 (rd_L5 l0_1 x6_2) x7_3) x9_4)) := ⟨_, rfl⟩
                         replace H : (if bq35 = true then (spec_l02Degrees.l2 k4 y470 (x5_4.set ((rd (rd_L1 (rd_L5 l0_1 x6_2) x7_3) x9_4) : Int).toNat true) x6_2 x7_3 (rd_L1 (rd_L5 l0_1 x6_2) x7_3) (wrap64 (x9_4 + 1)) a0_0 l0_1) else (spec_l02Degrees.l2 k4 y470 (x5_4.set ((rd (rd_L1 (rd_L5 l0_1 x6_2) x7_3) x9_4) : Int).toNat (((rd_L1 (rd_L5 l0_1 x6_2) x7_3).length : Int) == 1)) x6_2 x7_3 (rd_L1 (rd_L5 l0_1 x6_2) x7_3) (wrap64 (x9_4 + 1)) a0_0 l0_1)) = some (r1, r2) := by rw [← hbq35] at H; exact H
                         have Nbq35 := Aside0.mk hbq35
                         clear hbq35
                         by_cases c36 : bq35 = true
                         ·subst c36
                          have H1 : (spec_l02Degrees.l2 k4 y470 (x5_4.set ((rd (rd_L1 (rd_L5 l0_1 x6_2) x7_3) x9_4) : Int).toNat true) x6_2 x7_3 (rd_L1 (rd_L5 l0_1 x6_2) x7_3) (wrap64 (x9_4 + 1)) a0_0 l0_1) = some (r1, r2) := by rw [if_pos rfl] at H; exact H
                          clear H
                          have H := H1
                          clear H1
                          obtain ⟨y474, hy474⟩ : ∃ y_ : List Bool, y_ = (x5_4.set ((rd (rd_L1 (rd_L5 l0_1 x6_2) x7_3) x9_4) : Int).toNat true) := ⟨_, rfl⟩
                          replace H : (spec_l02Degrees.l2 k4 y470 y474 x6_2 x7_3 (rd_L1 (rd_L5 l0_1 x6_2) x7_3) (wrap64 (x9_4 + 1)) a0_0 l0_1) = some (r1, r2) := by first | (rw [hy474]; with_reducible exact H) | (have H2_ := (Option.bind_some _ _).symm.trans H; rw [hy474]; with_reducible exact H2_) | (have H2_ := (Option.bind_some _ _).symm.trans H; with_reducible exact H2_) | with_reducible exact H | (rw [hy474]; exact H) | exact H
                          have Ny474 := Aside0.mk hy474
                          clear hy474
                          have H' := Aside0.mk H
                          clear H
                          try go_wp2
                          have n0_ := Aside0.mk (Kd.R_drew HO_4.out)
                          have n1_ := Aside0.mk (Kd.R_drew HO_5.out)
                          have n2_ := Aside0.mk (blk_drew BK455.out)
                          have n3_ := Aside0.mk (below_drew1 HB.out)
                          clear HO_4
                          clear HO_5
                          clear BK455
                          clear HB
                          have HO_4 := n0_
                          have HO_5 := n1_
                          have BK455 := n2_
                          have HB := n3_
                          clear n0_ n1_ n2_ n3_
                          have p466 : 0 ≤ (x9_4 : Int) := oda
                          have q466 : x9_4 < ((rd_L1 (rd_L5 l0_1 x6_2) x7_3).length : Int) := oda
                          obtain ⟨ad466, e466, hx466_0⟩ := Kd.at_int HR465_0.out x9_4 p466 q466
                          have hw466_0 := hx466_0
                          cases e466
                          replace hx466_0 := (HB.out.cell (World.block_lt_of_cell? w _ hx466_0)).trans hx466_0
                          replace p466 := eq_true p466
                          replace q466 := eq_true q466
                          refine start_ (n := 9) (S := fun w' => w'.cell? ⟨gb455, 0, none⟩ = some (.int .i64 a0_0) ∧ w'.cell? ⟨gb455, 1, none⟩ = some (.slice (some ad463) l0_1.length c0_1) ∧ w'.cell? (ad466.add (x9_4).toNat) = some (.int .i64 (rd (rd_L1 (rd_L5 l0_1 x6_2) x7_3) x9_4))) (ds := []) #[false, false, false, false, false, false, false, false, false] (by kernel_rfl) rfl rfl ⟨(blk_cell BK455.out 0).trans rfl, (blk_cell BK455.out 1).trans rfl, ((HB.out.cell (World.block_lt_of_cell? w _ hw466_0)).trans hw466_0)⟩ (fun hHeld => ?_); refine with_tabW spec_l02Degrees.tab16 spec_l02Degrees.bits16 (fun HT_ HW_ => ?_)
                          generalize wr.drew = w38 at HO_4 HO_5 BK455 HB hx466_0 hHeld ⊢
                          refine pure_ (i := 0) (N := some 61) (v := ?_) (a' := ?_) #[true, false, false, false, false, false, false, false, false] rfl rfl (any_of HT_.out (by kernel_rfl)) (fun _ _ _ h => h) (Or.inl ⟨by rfl, ?_⟩) ?_ ?_
                          rotate_left; (· (intro w'; go_simp; with_reducible rfl)); rotate_left; (· (simp only [Act.put, List.setIfInBounds_toArray, List.set_cons_zero, List.set_cons_succ, i64_w, i32_w]; rfl))
                          refine pure_ (i := 1) (N := some 62) (v := ?_) (a' := ?_) #[true, true, false, false, false, false, false, false, false] rfl rfl (any_of HT_.out (by kernel_rfl)) (fun _ _ _ h => h) (Or.inl ⟨by rfl, ?_⟩) ?_ ?_
                          rotate_left; (· (intro w'; go_simp; with_reducible rfl)); rotate_left; (· (simp only [Act.put, List.setIfInBounds_toArray, List.set_cons_zero, List.set_cons_succ, i64_w, i32_w]; rfl))
                          refine pure_ (i := 2) (N := some 63) (v := ?_) (a' := ?_) #[true, true, true, false, false, false, false, false, false] rfl rfl (any_of HT_.out (by kernel_rfl)) (fun _ _ _ h => h) (Or.inl ⟨by rfl, ?_⟩) ?_ ?_
                          rotate_left; (· (intro w'; go_simp; with_reducible rfl)); rotate_left; (· (simp only [Act.put, List.setIfInBounds_toArray, List.set_cons_zero, List.set_cons_succ, i64_w, i32_w]; rfl))
                          refine pure_ (i := 4) (N := some 65) (v := ?_) (a' := ?_) #[true, true, true, false, true, false, false, false, false] rfl rfl (any_of HT_.out (by kernel_rfl)) (fun _ _ _ h => h) (Or.inl ⟨by rfl, ?_⟩) ?_ ?_
                          rotate_left; (· (intro w'; go_simp; with_reducible rfl)); rotate_left; (· (simp only [Act.put, List.setIfInBounds_toArray, List.set_cons_zero, List.set_cons_succ, i64_w, i32_w]; rfl))
                          refine take_ (i := 3) (N := some 64) (v := ?_) (a' := ?_) #[true, true, true, true, true, false, false, false, false] rfl rfl (take_ofW HT_.out HW_.out (by kernel_rfl)) (fun _ _ _ h => h) (Or.inl ⟨by rfl, ?_⟩) hHeld ?_ ?_
                          rotate_left; (· (rintro w' ⟨s0, s1, s2⟩; go_simp; with_reducible rfl)); rotate_left; (· (simp only [Act.put, List.setIfInBounds_toArray, List.set_cons_zero, List.set_cons_succ, i64_w, i32_w]; rfl))
                          refine take_ (i := 5) (N := some 66) (v := ?_) (a' := ?_) #[true, true, true, true, true, true, false, false, false] rfl rfl (take_ofW HT_.out HW_.out (by kernel_rfl)) (fun _ _ _ h => h) (Or.inl ⟨by rfl, ?_⟩) hHeld ?_ ?_
                          rotate_left; (· (rintro w' ⟨s0, s1, s2⟩; go_simp; with_reducible rfl)); rotate_left; (· (simp only [Act.put, List.setIfInBounds_toArray, List.set_cons_zero, List.set_cons_succ, i64_w, i32_w]; rfl))
                          refine pure_ (i := 6) (N := some 67) (v := ?_) (a' := ?_) #[true, true, true, true, true, true, true, false, false] rfl rfl (any_of HT_.out (by kernel_rfl)) (fun _ _ _ h => h) (Or.inl ⟨by rfl, ?_⟩) ?_ ?_
                          rotate_left; (· (intro w'; go_simp; with_reducible rfl)); rotate_left; (· (simp only [Act.put, List.setIfInBounds_toArray, List.set_cons_zero, List.set_cons_succ, i64_w, i32_w]; rfl))
                          refine one_ (i := 7) (N := some 68) #[true, true, true, true, true, true, true, true, false] rfl rfl (one_of HT_.out (by kernel_rfl)) (by decide) (fun K hK => ?_)
                          refine goes_ Try.func41 (by kernel_rfl) rfl #[.int .i64 (rd (rd_L1 (rd_L5 l0_1 x6_2) x7_3) x9_4), .int .i64 0, .int .i64 (wrap64 (a0_0 - 1))] (by rfl) rfl rfl (by (try simp only [List.map_toArray, List.map_cons, List.map_nil]); first | done | rfl | (simp only [List.length_drop, List.length_take]; rfl)) ?_
                          with_reducible refine (spec_l01In.calls (rd (rd_L1 (rd_L5 l0_1 x6_2) x7_3) x9_4) 0 (wrap64 (a0_0 - 1)) true _ A29.out).mono ?_
                          rintro e w' ⟨rfl, ⟨nd, rfl⟩⟩
                          refine ⟨_, rfl, ?_⟩
                          refine hK.out _ _ ⟨(blk_cell BK455.out 0).trans rfl, (blk_cell BK455.out 1).trans rfl, ((HB.out.cell (World.block_lt_of_cell? w _ hw466_0)).trans hw466_0)⟩ (fun hHeld => ?_)
                          clear hK K
                          refine norm_ (a' := ?_) ?_ ?_
                          rotate_left
                          ·show Act.put _ (some 68) _ = _
                           simp only [Act.put, List.setIfInBounds_toArray, List.set_cons_zero, List.set_cons_succ, i64_w, i32_w]
                           rfl
                          refine pure_ (i := 8) (N := some 69) (v := ?_) (a' := ?_) #[true, true, true, true, true, true, true, true, true] rfl rfl (any_of HT_.out (by kernel_rfl)) (fun _ _ _ h => h) (Or.inl ⟨by rfl, ?_⟩) ?_ ?_
                          rotate_left; (· (intro w'; go_simp; with_reducible rfl)); rotate_left; (· (simp only [Act.put, List.setIfInBounds_toArray, List.set_cons_zero, List.set_cons_succ, i64_w, i32_w]; rfl))
                          refine done_ (done_of HT_.out (by kernel_rfl)) ?_
                          (try (rw [drewN_self w38]; generalize hq_ : World.drewN w38 _ = w38; have n0_ := Aside0.mk (by first | exact Kd.R_at hq_ HO_4.out | exact Kd.S_at hq_ HO_4.out | exact Kd.N_at hq_ HO_4.out | exact Kd.V_at hq_ HO_4.out); have n1_ := Aside0.mk (by first | exact Kd.R_at hq_ HO_5.out | exact Kd.S_at hq_ HO_5.out | exact Kd.N_at hq_ HO_5.out | exact Kd.V_at hq_ HO_5.out); have n2_ := Aside0.mk (blk_at hq_ BK455.out); have n3_ := Aside0.mk (below_at hq_ HB.out); clear hq_ HO_4 HO_5 BK455 HB; have HO_4 := n0_; have HO_5 := n1_; have BK455 := n2_; have HB := n3_; clear n0_ n1_ n2_ n3_))
                          have p468 : 0 ≤ (x9_4 : Int) := oda
                          have q468 : x9_4 < ((rd_L1 (rd_L5 l0_1 x6_2) x7_3).length : Int) := oda
                          obtain ⟨ad468, e468, hx468_0⟩ := Kd.at_int HR465_0.out x9_4 p468 q468
                          obtain rfl : ad466 = ad468 := (by injection e468)
                          replace hx468_0 := (HB.out.cell (World.block_lt_of_cell? w _ hx468_0)).trans hx468_0
                          replace p468 := eq_true p468
                          replace q468 := eq_true q468
                          obtain ⟨Ao39, co39, eo39⟩ := Kd.R_slice HO_4.out
                          subst eo39
                          have p469 : 0 ≤ ((rd (rd_L1 (rd_L5 l0_1 x6_2) x7_3) x9_4) : Int) := oda
                          have q469 : (rd (rd_L1 (rd_L5 l0_1 x6_2) x7_3) x9_4) < (x4_4.length : Int) := oda
                          obtain ⟨ad469, e469, hx469_0⟩ := Kd.at_int (Kd.R_reads' HO_4.out).2.2 (rd (rd_L1 (rd_L5 l0_1 x6_2) x7_3) x9_4) p469 q469
                          cases e469
                          replace p469 := eq_true p469
                          replace q469 := eq_true q469
                          have p33 : 0 ≤ ((rd (rd_L1 (rd_L5 l0_1 x6_2) x7_3) x9_4) : Int) := oda
                          have q33 : ((rd (rd_L1 (rd_L5 l0_1 x6_2) x7_3) x9_4) : Int) < ((x4_4.length : Int) : Int) := oda
                          obtain ⟨go33, co33, eo33, gb33, gl33, cl33, HG33⟩ := Kd.R_form HO_4.out (by omega)
                          (first | cases eo33 | (injection eo33 with ea_ en_ ec_; (first | subst ea_ | (injection ea_ with ea_; subst ea_)); subst ec_; clear en_))
                          have GB33 := Aside0.mk gb33
                          have GG33 := Aside0.mk HG33
                          clear gb33 gl33 HG33
                          (first | simp only [add_plain] at hx469_0 | skip)
                          obtain ⟨hx33_0, hf33_0⟩ := Kd.R_celln 0 HO_4.out ((rd (rd_L1 (rd_L5 l0_1 x6_2) x7_3) x9_4) : Int) p33 q33
                          replace p33 := eq_true p33
                          replace q33 := eq_true q33
                          obtain ⟨hy40_, hz40_⟩ := Kd.R_celln 0 HO_4.out ((rd (rd_L1 (rd_L5 l0_1 x6_2) x7_3) x9_4) : Int) (oda) (oda)
                          have HP40 := Kd.R_putg HO_4.out ((rd (rd_L1 (rd_L5 l0_1 x6_2) x7_3) x9_4) : Int) (wrap64 ((rd x4_4 (rd (rd_L1 (rd_L5 l0_1 x6_2) x7_3) x9_4)) + 1))
                          try go_wp2_with (first | ((with_reducible refine gate_store (t := 2) (p := 78) rfl ?_); refine store_event (t := 2) (p := 78) (v := ?vo_w41) (w1 := (w38.setCell ⟨go33, ((rd (rd_L1 (rd_L5 l0_1 x6_2) x7_3) x9_4) : Int).toNat, none⟩ (.int .i64 (wrap64 ((rd x4_4 (rd (rd_L1 (rd_L5 l0_1 x6_2) x7_3) x9_4)) + 1))))) ?hg ?ho ?hn ?hr ?_; (case ho => rfl); (case hg => rfl); (case hn => rfl); (case hr => first | (go_simp; done) | (go_simp; rfl)); intro w41 hw; have hg : w38.grownBy w41 (some go33) := (by rw [hw]; exact HP40.2); have hp_ : Kd.R (Kd.int .i64) 2 w41 w.heap.size (fun _ => True) (.slice (some ⟨go33, 0, none⟩) x4_4.length co39) y470 := (by rw [hw, Ny470.out]; exact HP40.1); clear HP40; have n0_ := Aside0.mk (hp_); have n1_ := Aside0.mk (Kd.R_over' (v := (.slice (some ⟨go33, 0, none⟩) x4_4.length co39)) (by (with_reducible repeat (first | apply Kd.R_alloc | apply Kd.R_drewN | apply Kd.R_drew)); exact HO_5.out) (Kd.R_typed HO_4.out) (by decide) hg); have n2_ := Aside0.mk (blk_grown (g := gb455) (o := .cells #[.int .i64 a0_0, .slice (some ad463) l0_1.length c0_1] 43 (0, 0)) (by (with_reducible repeat (first | refine blk_drewN ?_ _ | refine blk_drew ?_ | refine blk_alloc ?_ _)); exact BK455.out) hg (Kd.R_ne HO_4.out BK455.out (by decide))); have n3_ := Aside0.mk ((by rw [hw]; exact below_set (HB.out) GB33.out : Below w.heap.size w w41)); clear HO_4; clear HO_5; clear BK455; clear HB; have HO_4 := n0_; have HO_5 := n1_; have BK455 := n2_; have HB := n3_; clear n0_ n1_ n2_ n3_; clear hg hw hp_))
                          have n0_ := Aside0.mk (Kd.R_drew HO_4.out)
                          have n1_ := Aside0.mk (Kd.R_drew HO_5.out)
                          have n2_ := Aside0.mk (blk_drew BK455.out)
                          have n3_ := Aside0.mk (below_drew1 HB.out)
                          clear HO_4
                          clear HO_5
                          clear BK455
                          clear HB
                          have HO_4 := n0_
                          have HO_5 := n1_
                          have BK455 := n2_
                          have HB := n3_
                          clear n0_ n1_ n2_ n3_
                          have p471 : 0 ≤ (x9_4 : Int) := oda
                          have q471 : x9_4 < ((rd_L1 (rd_L5 l0_1 x6_2) x7_3).length : Int) := oda
                          obtain ⟨ad471, e471, hx471_0⟩ := Kd.at_int HR465_0.out x9_4 p471 q471
                          have hw471_0 := hx471_0
                          obtain rfl : ad466 = ad471 := (by injection e471)
                          replace hx471_0 := (HB.out.cell (World.block_lt_of_cell? w _ hx471_0)).trans hx471_0
                          replace p471 := eq_true p471
                          replace q471 := eq_true q471
                          have p472 : 0 ≤ (x9_4 : Int) := oda
                          have q472 : x9_4 < ((rd_L1 (rd_L5 l0_1 x6_2) x7_3).length : Int) := oda
                          obtain ⟨ad472, e472, hx472_0⟩ := Kd.at_int HR465_0.out x9_4 p472 q472
                          have hw472_0 := hx472_0
                          obtain rfl : ad466 = ad472 := (by injection e472)
                          replace hx472_0 := (HB.out.cell (World.block_lt_of_cell? w _ hx472_0)).trans hx472_0
                          replace p472 := eq_true p472
                          replace q472 := eq_true q472
                          obtain ⟨Ao43, co43, eo43⟩ := Kd.R_slice HO_5.out
                          (first | subst eo43 | (injection eo43 with f1_ f2_ f3_; have f4_ := f1_.symm; have f5_ := f3_.symm; clear f1_ f2_ f3_; subst f4_; subst f5_))
                          have p473 : 0 ≤ ((rd (rd_L1 (rd_L5 l0_1 x6_2) x7_3) x9_4) : Int) := oda
                          have q473 : (rd (rd_L1 (rd_L5 l0_1 x6_2) x7_3) x9_4) < (x5_4.length : Int) := oda
                          obtain ⟨ad473, e473, hx473_0⟩ := Kd.at_bool (Kd.R_reads' HO_5.out).2.2 (rd (rd_L1 (rd_L5 l0_1 x6_2) x7_3) x9_4) p473 q473
                          (try rw [← Nbq35.out] at hx473_0)
                          cases e473
                          replace p473 := eq_true p473
                          replace q473 := eq_true q473
                          have p37 : 0 ≤ ((rd (rd_L1 (rd_L5 l0_1 x6_2) x7_3) x9_4) : Int) := oda
                          have q37 : ((rd (rd_L1 (rd_L5 l0_1 x6_2) x7_3) x9_4) : Int) < ((x5_4.length : Int) : Int) := oda
                          obtain ⟨go37, co37, eo37, gb37, gl37, cl37, HG37⟩ := Kd.R_form HO_5.out (by omega)
                          (first | cases eo37 | (injection eo37 with ea_ en_ ec_; (first | subst ea_ | (injection ea_ with ea_; subst ea_)); subst ec_; clear en_))
                          have GB37 := Aside0.mk gb37
                          have GG37 := Aside0.mk HG37
                          clear gb37 gl37 HG37
                          (first | simp only [add_plain] at hx473_0 | skip)
                          obtain ⟨hx37_0, hf37_0⟩ := Kd.R_celln false HO_5.out ((rd (rd_L1 (rd_L5 l0_1 x6_2) x7_3) x9_4) : Int) p37 q37
                          replace p37 := eq_true p37
                          replace q37 := eq_true q37
                          have HP44 := Kd.R_putn HO_5.out ((rd (rd_L1 (rd_L5 l0_1 x6_2) x7_3) x9_4) : Int) true
                          rw [← Ny474.out] at HP44
                          have HQ44 := Aside0.mk HP44
                          clear HP44
                          refine start_ (n := 19) (S := fun w' => w'.cell? (ad466.add (x9_4).toNat) = some (.int .i64 (rd (rd_L1 (rd_L5 l0_1 x6_2) x7_3) x9_4)) ∧ w'.cell? (ad466.add (x9_4).toNat) = some (.int .i64 (rd (rd_L1 (rd_L5 l0_1 x6_2) x7_3) x9_4)) ∧ w'.cell? ⟨go37, ((rd (rd_L1 (rd_L5 l0_1 x6_2) x7_3) x9_4) : Int).toNat, none⟩ = some (.bool true)) (ds := [18]) #[false, false, false, false, false, false, false, false, false, false, false, false, false, false, false, false, false, false, false] (by kernel_rfl) rfl rfl ⟨((HB.out.cell (World.block_lt_of_cell? w _ hw471_0)).trans hw471_0), ((HB.out.cell (World.block_lt_of_cell? w _ hw472_0)).trans hw472_0), hx473_0⟩ (fun hHeld => ?_); refine with_tabW spec_l02Degrees.tab19 spec_l02Degrees.bits19 (fun HT_ HW_ => ?_)
                          generalize w41.drew = w42 at HO_4 HO_5 BK455 HB GG37 HQ44 hf37_0 hx37_0 hx471_0 hx472_0 hx473_0 hHeld ⊢
                          refine pure_ (i := 0) (N := some 79) (v := ?_) (a' := ?_) #[true, false, false, false, false, false, false, false, false, false, false, false, false, false, false, false, false, false, false] rfl rfl (any_of HT_.out (by kernel_rfl)) (fun _ _ _ h => h) (Or.inl ⟨by rfl, ?_⟩) ?_ ?_
                          rotate_left; (· (intro w'; go_simp; with_reducible rfl)); rotate_left; (· (simp only [Act.put, List.setIfInBounds_toArray, List.set_cons_zero, List.set_cons_succ, i64_w, i32_w]; rfl))
                          refine pure_ (i := 1) (N := some 80) (v := ?_) (a' := ?_) #[true, true, false, false, false, false, false, false, false, false, false, false, false, false, false, false, false, false, false] rfl rfl (any_of HT_.out (by kernel_rfl)) (fun _ _ _ h => h) (Or.inl ⟨by rfl, ?_⟩) ?_ ?_
                          rotate_left; (· (intro w'; go_simp; with_reducible rfl)); rotate_left; (· (simp only [Act.put, List.setIfInBounds_toArray, List.set_cons_zero, List.set_cons_succ, i64_w, i32_w]; rfl))
                          refine pure_ (i := 2) (N := some 81) (v := ?_) (a' := ?_) #[true, true, true, false, false, false, false, false, false, false, false, false, false, false, false, false, false, false, false] rfl rfl (any_of HT_.out (by kernel_rfl)) (fun _ _ _ h => h) (Or.inl ⟨by rfl, ?_⟩) ?_ ?_
                          rotate_left; (· (intro w'; go_simp; with_reducible rfl)); rotate_left; (· (simp only [Act.put, List.setIfInBounds_toArray, List.set_cons_zero, List.set_cons_succ, i64_w, i32_w]; rfl))
                          refine pure_ (i := 3) (N := some 82) (v := ?_) (a' := ?_) #[true, true, true, true, false, false, false, false, false, false, false, false, false, false, false, false, false, false, false] rfl rfl (any_of HT_.out (by kernel_rfl)) (fun _ _ _ h => h) (Or.inl ⟨by rfl, ?_⟩) ?_ ?_
                          rotate_left; (· (intro w'; go_simp; with_reducible rfl)); rotate_left; (· (simp only [Act.put, List.setIfInBounds_toArray, List.set_cons_zero, List.set_cons_succ, i64_w, i32_w]; rfl))
                          refine pure_ (i := 5) (N := some 84) (v := ?_) (a' := ?_) #[true, true, true, true, false, true, false, false, false, false, false, false, false, false, false, false, false, false, false] rfl rfl (any_of HT_.out (by kernel_rfl)) (fun _ _ _ h => h) (Or.inl ⟨by rfl, ?_⟩) ?_ ?_
                          rotate_left; (· (intro w'; go_simp; with_reducible rfl)); rotate_left; (· (simp only [Act.put, List.setIfInBounds_toArray, List.set_cons_zero, List.set_cons_succ, i64_w, i32_w]; rfl))
                          refine pure_ (i := 6) (N := some 85) (v := ?_) (a' := ?_) #[true, true, true, true, false, true, true, false, false, false, false, false, false, false, false, false, false, false, false] rfl rfl (any_of HT_.out (by kernel_rfl)) (fun _ _ _ h => h) (Or.inl ⟨by rfl, ?_⟩) ?_ ?_
                          rotate_left; (· (intro w'; go_simp; with_reducible rfl)); rotate_left; (· (simp only [Act.put, List.setIfInBounds_toArray, List.set_cons_zero, List.set_cons_succ, i64_w, i32_w]; rfl))
                          refine pure_ (i := 7) (N := some 86) (v := ?_) (a' := ?_) #[true, true, true, true, false, true, true, true, false, false, false, false, false, false, false, false, false, false, false] rfl rfl (any_of HT_.out (by kernel_rfl)) (fun _ _ _ h => h) (Or.inl ⟨by rfl, ?_⟩) ?_ ?_
                          rotate_left; (· (intro w'; go_simp; with_reducible rfl)); rotate_left; (· (simp only [Act.put, List.setIfInBounds_toArray, List.set_cons_zero, List.set_cons_succ, i64_w, i32_w]; rfl))
                          refine pure_ (i := 8) (N := some 87) (v := ?_) (a' := ?_) #[true, true, true, true, false, true, true, true, true, false, false, false, false, false, false, false, false, false, false] rfl rfl (any_of HT_.out (by kernel_rfl)) (fun _ _ _ h => h) (Or.inl ⟨by rfl, ?_⟩) ?_ ?_
                          rotate_left; (· (intro w'; go_simp; with_reducible rfl)); rotate_left; (· (simp only [Act.put, List.setIfInBounds_toArray, List.set_cons_zero, List.set_cons_succ, i64_w, i32_w]; rfl))
                          refine take_ (i := 4) (N := some 83) (v := ?_) (a' := ?_) #[true, true, true, true, true, true, true, true, true, false, false, false, false, false, false, false, false, false, false] rfl rfl (take_ofW HT_.out HW_.out (by kernel_rfl)) (fun _ _ _ h => h) (Or.inl ⟨by rfl, ?_⟩) hHeld ?_ ?_
                          rotate_left; (· (rintro w' ⟨s0, s1, s2⟩; go_simp; with_reducible rfl)); rotate_left; (· (simp only [Act.put, List.setIfInBounds_toArray, List.set_cons_zero, List.set_cons_succ, i64_w, i32_w]; rfl))
                          refine take_ (i := 9) (N := some 88) (v := ?_) (a' := ?_) #[true, true, true, true, true, true, true, true, true, true, false, false, false, false, false, false, false, false, false] rfl rfl (take_ofW HT_.out HW_.out (by kernel_rfl)) (fun _ _ _ h => h) (Or.inl ⟨by rfl, ?_⟩) hHeld ?_ ?_
                          rotate_left; (· (rintro w' ⟨s0, s1, s2⟩; go_simp; with_reducible rfl)); rotate_left; (· (simp only [Act.put, List.setIfInBounds_toArray, List.set_cons_zero, List.set_cons_succ, i64_w, i32_w]; rfl))
                          refine pure_ (i := 10) (N := some 89) (v := ?_) (a' := ?_) #[true, true, true, true, true, true, true, true, true, true, true, false, false, false, false, false, false, false, false] rfl rfl (any_of HT_.out (by kernel_rfl)) (fun _ _ _ h => h) (Or.inl ⟨by rfl, ?_⟩) ?_ ?_
                          rotate_left; (· (intro w'; go_simp; with_reducible rfl)); rotate_left; (· (simp only [Act.put, List.setIfInBounds_toArray, List.set_cons_zero, List.set_cons_succ, i64_w, i32_w]; rfl))
                          refine take_ (i := 11) (N := some 90) (v := ?_) (a' := ?_) #[true, true, true, true, true, true, true, true, true, true, true, true, false, false, false, false, false, false, false] rfl rfl (take_ofW HT_.out HW_.out (by kernel_rfl)) (fun _ _ _ h => h) (Or.inl ⟨by rfl, ?_⟩) hHeld ?_ ?_
                          rotate_left; (· (rintro w' ⟨s0, s1, s2⟩; go_simp; with_reducible rfl)); rotate_left; (· (simp only [Act.put, List.setIfInBounds_toArray, List.set_cons_zero, List.set_cons_succ, i64_w, i32_w]; rfl))
                          refine pure_ (i := 12) (N := some 91) (v := ?_) (a' := ?_) #[true, true, true, true, true, true, true, true, true, true, true, true, true, false, false, false, false, false, false] rfl rfl (any_of HT_.out (by kernel_rfl)) (fun _ _ _ h => h) (Or.inl ⟨by rfl, ?_⟩) ?_ ?_
                          rotate_left; (· (intro w'; go_simp; with_reducible rfl)); rotate_left; (· (simp only [Act.put, List.setIfInBounds_toArray, List.set_cons_zero, List.set_cons_succ, i64_w, i32_w]; rfl))
                          refine pure_ (i := 13) (N := some 92) (v := undef) (a' := ?_) #[true, true, true, true, true, true, true, true, true, true, true, true, true, true, false, false, false, false, false] rfl rfl (any_of HT_.out (by kernel_rfl)) (fun _ _ _ h => h) (Or.inr ⟨by rfl, rfl⟩) ?_ ?_
                          rotate_left
                          ·simp only [Act.put, List.setIfInBounds_toArray, List.set_cons_zero, List.set_cons_succ, i64_w, i32_w]
                           rfl
                          refine pure_ (i := 14) (N := some 93) (v := undef) (a' := ?_) #[true, true, true, true, true, true, true, true, true, true, true, true, true, true, true, false, false, false, false] rfl rfl (any_of HT_.out (by kernel_rfl)) (fun _ _ _ h => h) (Or.inr ⟨by rfl, rfl⟩) ?_ ?_
                          rotate_left
                          ·simp only [Act.put, List.setIfInBounds_toArray, List.set_cons_zero, List.set_cons_succ, i64_w, i32_w]
                           rfl
                          refine pure_ (i := 15) (N := some 94) (v := undef) (a' := ?_) #[true, true, true, true, true, true, true, true, true, true, true, true, true, true, true, true, false, false, false] rfl rfl (any_of HT_.out (by kernel_rfl)) (fun _ _ _ h => h) (Or.inr ⟨by rfl, rfl⟩) ?_ ?_
                          rotate_left
                          ·simp only [Act.put, List.setIfInBounds_toArray, List.set_cons_zero, List.set_cons_succ, i64_w, i32_w]
                           rfl
                          refine pure_ (i := 16) (N := some 95) (v := ?_) (a' := ?_) #[true, true, true, true, true, true, true, true, true, true, true, true, true, true, true, true, true, false, false] rfl rfl (any_of HT_.out (by kernel_rfl)) (fun _ _ _ h => h) (Or.inl ⟨by rfl, ?_⟩) ?_ ?_
                          rotate_left; (· (intro w'; go_simp; with_reducible rfl)); rotate_left; (· (simp only [Act.put, List.setIfInBounds_toArray, List.set_cons_zero, List.set_cons_succ, i64_w, i32_w]; rfl))
                          refine pure_ (i := 17) (N := some 96) (v := ?_) (a' := ?_) #[true, true, true, true, true, true, true, true, true, true, true, true, true, true, true, true, true, true, false] rfl rfl (any_of HT_.out (by kernel_rfl)) (fun _ _ _ h => h) (Or.inl ⟨by rfl, ?_⟩) ?_ ?_
                          rotate_left; (· (intro w'; go_simp; with_reducible rfl)); rotate_left; (· (simp only [Act.put, List.setIfInBounds_toArray, List.set_cons_zero, List.set_cons_succ, i64_w, i32_w]; rfl))
                          refine last_ (i := 18) (N := none) #[true, true, true, true, true, true, true, true, true, true, true, true, true, true, true, true, true, true, true] rfl rfl (one_of HT_.out (by kernel_rfl)) (by decide) (fun K hK => ?_)
                          refine skip_ (w1 := ?_) (by rfl) rfl ?_ ?_
                          rotate_left
                          ·go_simp
                           rfl
                          refine hK.out _ _ ?_
                          clear hK K
                          refine done_ (done_of HT_.out (by kernel_rfl)) ?_
                          try go_wp2
                          go_roundg k4
                          case measure => have := HJ1.out; have := HK2.out; have := HK3.out; have := HK4.out; omega
                          case rel => exact ⟨(y470), (y474), (wrap64 (x9_4 + 1)), (by first | rfl | (simp; done) | (simp [*]; done)), H', ⟨by have := HJ1.out; have := HK2.out; have := HK3.out; have := HK4.out; omega⟩, ⟨by (with_reducible repeat (first | apply Kd.R_alloc | apply Kd.R_drewN | apply Kd.R_drew)); exact Kd.R_mono (Kd.R_far (p := ⟨go37, ((rd (rd_L1 (rd_L5 l0_1 x6_2) x7_3) x9_4) : Int).toNat, none⟩) (Kd.R_types HO_4.out GG37.out (by decide)) (fun _ hk => hk.2) (.bool true)) (fun _ hk => trivial)⟩, ⟨by (with_reducible repeat (first | apply Kd.R_alloc | apply Kd.R_drewN | apply Kd.R_drew)); exact HQ44.out⟩, ⟨by (with_reducible repeat (first | refine blk_drewN ?_ _ | refine blk_drew ?_ | refine blk_alloc ?_ _)); refine blk_far ?_ (by have h_ := Kd.R_ne HO_5.out BK455.out (by decide); intro e_; exact h_ (by rw [e_]; rfl)) _; (with_reducible repeat (first | refine blk_drewN ?_ _ | refine blk_drew ?_ | refine blk_alloc ?_ _)); exact BK455.out⟩, ⟨by repeat (first | (with_reducible first | exact HB.out | apply below_alloc | apply pw_below_drewN | apply below_drew1 | refine below_set ?_ GB37.out | refine below_set ?_ GE455.out) | exact HB.out)⟩⟩
                         ·replace c36 := Bool.eq_false_iff.mpr c36
                          subst c36
                          have H1 : (spec_l02Degrees.l2 k4 y470 (x5_4.set ((rd (rd_L1 (rd_L5 l0_1 x6_2) x7_3) x9_4) : Int).toNat (((rd_L1 (rd_L5 l0_1 x6_2) x7_3).length : Int) == 1)) x6_2 x7_3 (rd_L1 (rd_L5 l0_1 x6_2) x7_3) (wrap64 (x9_4 + 1)) a0_0 l0_1) = some (r1, r2) := by rw [if_neg (show ¬ (false = true) by decide)] at H; exact H
                          clear H
                          have H := H1
                          clear H1
                          obtain ⟨y475, hy475⟩ : ∃ y_ : List Bool, y_ = (x5_4.set ((rd (rd_L1 (rd_L5 l0_1 x6_2) x7_3) x9_4) : Int).toNat (((rd_L1 (rd_L5 l0_1 x6_2) x7_3).length : Int) == 1)) := ⟨_, rfl⟩
                          replace H : (spec_l02Degrees.l2 k4 y470 y475 x6_2 x7_3 (rd_L1 (rd_L5 l0_1 x6_2) x7_3) (wrap64 (x9_4 + 1)) a0_0 l0_1) = some (r1, r2) := by first | (rw [hy475]; with_reducible exact H) | (have H2_ := (Option.bind_some _ _).symm.trans H; rw [hy475]; with_reducible exact H2_) | (have H2_ := (Option.bind_some _ _).symm.trans H; with_reducible exact H2_) | with_reducible exact H | (rw [hy475]; exact H) | exact H
                          have Ny475 := Aside0.mk hy475
                          clear hy475
                          have H' := Aside0.mk H
                          clear H
                          try go_wp2
                          have n0_ := Aside0.mk (Kd.R_drew HO_4.out)
                          have n1_ := Aside0.mk (Kd.R_drew HO_5.out)
                          have n2_ := Aside0.mk (blk_drew BK455.out)
                          have n3_ := Aside0.mk (below_drew1 HB.out)
                          clear HO_4
                          clear HO_5
                          clear BK455
                          clear HB
                          have HO_4 := n0_
                          have HO_5 := n1_
                          have BK455 := n2_
                          have HB := n3_
                          clear n0_ n1_ n2_ n3_
                          have p466 : 0 ≤ (x9_4 : Int) := oda
                          have q466 : x9_4 < ((rd_L1 (rd_L5 l0_1 x6_2) x7_3).length : Int) := oda
                          obtain ⟨ad466, e466, hx466_0⟩ := Kd.at_int HR465_0.out x9_4 p466 q466
                          have hw466_0 := hx466_0
                          cases e466
                          replace hx466_0 := (HB.out.cell (World.block_lt_of_cell? w _ hx466_0)).trans hx466_0
                          replace p466 := eq_true p466
                          replace q466 := eq_true q466
                          refine start_ (n := 9) (S := fun w' => w'.cell? ⟨gb455, 0, none⟩ = some (.int .i64 a0_0) ∧ w'.cell? ⟨gb455, 1, none⟩ = some (.slice (some ad463) l0_1.length c0_1) ∧ w'.cell? (ad466.add (x9_4).toNat) = some (.int .i64 (rd (rd_L1 (rd_L5 l0_1 x6_2) x7_3) x9_4))) (ds := []) #[false, false, false, false, false, false, false, false, false] (by kernel_rfl) rfl rfl ⟨(blk_cell BK455.out 0).trans rfl, (blk_cell BK455.out 1).trans rfl, ((HB.out.cell (World.block_lt_of_cell? w _ hw466_0)).trans hw466_0)⟩ (fun hHeld => ?_); refine with_tabW spec_l02Degrees.tab16 spec_l02Degrees.bits16 (fun HT_ HW_ => ?_)
                          generalize wr.drew = w46 at HO_4 HO_5 BK455 HB hx466_0 hHeld ⊢
                          refine pure_ (i := 0) (N := some 61) (v := ?_) (a' := ?_) #[true, false, false, false, false, false, false, false, false] rfl rfl (any_of HT_.out (by kernel_rfl)) (fun _ _ _ h => h) (Or.inl ⟨by rfl, ?_⟩) ?_ ?_
                          rotate_left; (· (intro w'; go_simp; with_reducible rfl)); rotate_left; (· (simp only [Act.put, List.setIfInBounds_toArray, List.set_cons_zero, List.set_cons_succ, i64_w, i32_w]; rfl))
                          refine pure_ (i := 1) (N := some 62) (v := ?_) (a' := ?_) #[true, true, false, false, false, false, false, false, false] rfl rfl (any_of HT_.out (by kernel_rfl)) (fun _ _ _ h => h) (Or.inl ⟨by rfl, ?_⟩) ?_ ?_
                          rotate_left; (· (intro w'; go_simp; with_reducible rfl)); rotate_left; (· (simp only [Act.put, List.setIfInBounds_toArray, List.set_cons_zero, List.set_cons_succ, i64_w, i32_w]; rfl))
                          refine pure_ (i := 2) (N := some 63) (v := ?_) (a' := ?_) #[true, true, true, false, false, false, false, false, false] rfl rfl (any_of HT_.out (by kernel_rfl)) (fun _ _ _ h => h) (Or.inl ⟨by rfl, ?_⟩) ?_ ?_
                          rotate_left; (· (intro w'; go_simp; with_reducible rfl)); rotate_left; (· (simp only [Act.put, List.setIfInBounds_toArray, List.set_cons_zero, List.set_cons_succ, i64_w, i32_w]; rfl))
                          refine pure_ (i := 4) (N := some 65) (v := ?_) (a' := ?_) #[true, true, true, false, true, false, false, false, false] rfl rfl (any_of HT_.out (by kernel_rfl)) (fun _ _ _ h => h) (Or.inl ⟨by rfl, ?_⟩) ?_ ?_
                          rotate_left; (· (intro w'; go_simp; with_reducible rfl)); rotate_left; (· (simp only [Act.put, List.setIfInBounds_toArray, List.set_cons_zero, List.set_cons_succ, i64_w, i32_w]; rfl))
                          refine take_ (i := 3) (N := some 64) (v := ?_) (a' := ?_) #[true, true, true, true, true, false, false, false, false] rfl rfl (take_ofW HT_.out HW_.out (by kernel_rfl)) (fun _ _ _ h => h) (Or.inl ⟨by rfl, ?_⟩) hHeld ?_ ?_
                          rotate_left; (· (rintro w' ⟨s0, s1, s2⟩; go_simp; with_reducible rfl)); rotate_left; (· (simp only [Act.put, List.setIfInBounds_toArray, List.set_cons_zero, List.set_cons_succ, i64_w, i32_w]; rfl))
                          refine take_ (i := 5) (N := some 66) (v := ?_) (a' := ?_) #[true, true, true, true, true, true, false, false, false] rfl rfl (take_ofW HT_.out HW_.out (by kernel_rfl)) (fun _ _ _ h => h) (Or.inl ⟨by rfl, ?_⟩) hHeld ?_ ?_
                          rotate_left; (· (rintro w' ⟨s0, s1, s2⟩; go_simp; with_reducible rfl)); rotate_left; (· (simp only [Act.put, List.setIfInBounds_toArray, List.set_cons_zero, List.set_cons_succ, i64_w, i32_w]; rfl))
                          refine pure_ (i := 6) (N := some 67) (v := ?_) (a' := ?_) #[true, true, true, true, true, true, true, false, false] rfl rfl (any_of HT_.out (by kernel_rfl)) (fun _ _ _ h => h) (Or.inl ⟨by rfl, ?_⟩) ?_ ?_
                          rotate_left; (· (intro w'; go_simp; with_reducible rfl)); rotate_left; (· (simp only [Act.put, List.setIfInBounds_toArray, List.set_cons_zero, List.set_cons_succ, i64_w, i32_w]; rfl))
                          refine one_ (i := 7) (N := some 68) #[true, true, true, true, true, true, true, true, false] rfl rfl (one_of HT_.out (by kernel_rfl)) (by decide) (fun K hK => ?_)
                          refine goes_ Try.func41 (by kernel_rfl) rfl #[.int .i64 (rd (rd_L1 (rd_L5 l0_1 x6_2) x7_3) x9_4), .int .i64 0, .int .i64 (wrap64 (a0_0 - 1))] (by rfl) rfl rfl (by (try simp only [List.map_toArray, List.map_cons, List.map_nil]); first | done | rfl | (simp only [List.length_drop, List.length_take]; rfl)) ?_
                          with_reducible refine (spec_l01In.calls (rd (rd_L1 (rd_L5 l0_1 x6_2) x7_3) x9_4) 0 (wrap64 (a0_0 - 1)) true _ A29.out).mono ?_
                          rintro e w' ⟨rfl, ⟨nd, rfl⟩⟩
                          refine ⟨_, rfl, ?_⟩
                          refine hK.out _ _ ⟨(blk_cell BK455.out 0).trans rfl, (blk_cell BK455.out 1).trans rfl, ((HB.out.cell (World.block_lt_of_cell? w _ hw466_0)).trans hw466_0)⟩ (fun hHeld => ?_)
                          clear hK K
                          refine norm_ (a' := ?_) ?_ ?_
                          rotate_left
                          ·show Act.put _ (some 68) _ = _
                           simp only [Act.put, List.setIfInBounds_toArray, List.set_cons_zero, List.set_cons_succ, i64_w, i32_w]
                           rfl
                          refine pure_ (i := 8) (N := some 69) (v := ?_) (a' := ?_) #[true, true, true, true, true, true, true, true, true] rfl rfl (any_of HT_.out (by kernel_rfl)) (fun _ _ _ h => h) (Or.inl ⟨by rfl, ?_⟩) ?_ ?_
                          rotate_left; (· (intro w'; go_simp; with_reducible rfl)); rotate_left; (· (simp only [Act.put, List.setIfInBounds_toArray, List.set_cons_zero, List.set_cons_succ, i64_w, i32_w]; rfl))
                          refine done_ (done_of HT_.out (by kernel_rfl)) ?_
                          (try (rw [drewN_self w46]; generalize hq_ : World.drewN w46 _ = w46; have n0_ := Aside0.mk (by first | exact Kd.R_at hq_ HO_4.out | exact Kd.S_at hq_ HO_4.out | exact Kd.N_at hq_ HO_4.out | exact Kd.V_at hq_ HO_4.out); have n1_ := Aside0.mk (by first | exact Kd.R_at hq_ HO_5.out | exact Kd.S_at hq_ HO_5.out | exact Kd.N_at hq_ HO_5.out | exact Kd.V_at hq_ HO_5.out); have n2_ := Aside0.mk (blk_at hq_ BK455.out); have n3_ := Aside0.mk (below_at hq_ HB.out); clear hq_ HO_4 HO_5 BK455 HB; have HO_4 := n0_; have HO_5 := n1_; have BK455 := n2_; have HB := n3_; clear n0_ n1_ n2_ n3_))
                          have p468 : 0 ≤ (x9_4 : Int) := oda
                          have q468 : x9_4 < ((rd_L1 (rd_L5 l0_1 x6_2) x7_3).length : Int) := oda
                          obtain ⟨ad468, e468, hx468_0⟩ := Kd.at_int HR465_0.out x9_4 p468 q468
                          obtain rfl : ad466 = ad468 := (by injection e468)
                          replace hx468_0 := (HB.out.cell (World.block_lt_of_cell? w _ hx468_0)).trans hx468_0
                          replace p468 := eq_true p468
                          replace q468 := eq_true q468
                          obtain ⟨Ao47, co47, eo47⟩ := Kd.R_slice HO_4.out
                          subst eo47
                          have p469 : 0 ≤ ((rd (rd_L1 (rd_L5 l0_1 x6_2) x7_3) x9_4) : Int) := oda
                          have q469 : (rd (rd_L1 (rd_L5 l0_1 x6_2) x7_3) x9_4) < (x4_4.length : Int) := oda
                          obtain ⟨ad469, e469, hx469_0⟩ := Kd.at_int (Kd.R_reads' HO_4.out).2.2 (rd (rd_L1 (rd_L5 l0_1 x6_2) x7_3) x9_4) p469 q469
                          cases e469
                          replace p469 := eq_true p469
                          replace q469 := eq_true q469
                          have p33 : 0 ≤ ((rd (rd_L1 (rd_L5 l0_1 x6_2) x7_3) x9_4) : Int) := oda
                          have q33 : ((rd (rd_L1 (rd_L5 l0_1 x6_2) x7_3) x9_4) : Int) < ((x4_4.length : Int) : Int) := oda
                          obtain ⟨go33, co33, eo33, gb33, gl33, cl33, HG33⟩ := Kd.R_form HO_4.out (by omega)
                          (first | cases eo33 | (injection eo33 with ea_ en_ ec_; (first | subst ea_ | (injection ea_ with ea_; subst ea_)); subst ec_; clear en_))
                          have GB33 := Aside0.mk gb33
                          have GG33 := Aside0.mk HG33
                          clear gb33 gl33 HG33
                          (first | simp only [add_plain] at hx469_0 | skip)
                          obtain ⟨hx33_0, hf33_0⟩ := Kd.R_celln 0 HO_4.out ((rd (rd_L1 (rd_L5 l0_1 x6_2) x7_3) x9_4) : Int) p33 q33
                          replace p33 := eq_true p33
                          replace q33 := eq_true q33
                          obtain ⟨hy48_, hz48_⟩ := Kd.R_celln 0 HO_4.out ((rd (rd_L1 (rd_L5 l0_1 x6_2) x7_3) x9_4) : Int) (oda) (oda)
                          have HP48 := Kd.R_putg HO_4.out ((rd (rd_L1 (rd_L5 l0_1 x6_2) x7_3) x9_4) : Int) (wrap64 ((rd x4_4 (rd (rd_L1 (rd_L5 l0_1 x6_2) x7_3) x9_4)) + 1))
                          try go_wp2_with (first | ((with_reducible refine gate_store (t := 2) (p := 78) rfl ?_); refine store_event (t := 2) (p := 78) (v := ?vo_w49) (w1 := (w46.setCell ⟨go33, ((rd (rd_L1 (rd_L5 l0_1 x6_2) x7_3) x9_4) : Int).toNat, none⟩ (.int .i64 (wrap64 ((rd x4_4 (rd (rd_L1 (rd_L5 l0_1 x6_2) x7_3) x9_4)) + 1))))) ?hg ?ho ?hn ?hr ?_; (case ho => rfl); (case hg => rfl); (case hn => rfl); (case hr => first | (go_simp; done) | (go_simp; rfl)); intro w49 hw; have hg : w46.grownBy w49 (some go33) := (by rw [hw]; exact HP48.2); have hp_ : Kd.R (Kd.int .i64) 2 w49 w.heap.size (fun _ => True) (.slice (some ⟨go33, 0, none⟩) x4_4.length co47) y470 := (by rw [hw, Ny470.out]; exact HP48.1); clear HP48; have n0_ := Aside0.mk (hp_); have n1_ := Aside0.mk (Kd.R_over' (v := (.slice (some ⟨go33, 0, none⟩) x4_4.length co47)) (by (with_reducible repeat (first | apply Kd.R_alloc | apply Kd.R_drewN | apply Kd.R_drew)); exact HO_5.out) (Kd.R_typed HO_4.out) (by decide) hg); have n2_ := Aside0.mk (blk_grown (g := gb455) (o := .cells #[.int .i64 a0_0, .slice (some ad463) l0_1.length c0_1] 43 (0, 0)) (by (with_reducible repeat (first | refine blk_drewN ?_ _ | refine blk_drew ?_ | refine blk_alloc ?_ _)); exact BK455.out) hg (Kd.R_ne HO_4.out BK455.out (by decide))); have n3_ := Aside0.mk ((by rw [hw]; exact below_set (HB.out) GB33.out : Below w.heap.size w w49)); clear HO_4; clear HO_5; clear BK455; clear HB; have HO_4 := n0_; have HO_5 := n1_; have BK455 := n2_; have HB := n3_; clear n0_ n1_ n2_ n3_; clear hg hw hp_))
                          have n0_ := Aside0.mk (Kd.R_drew HO_4.out)
                          have n1_ := Aside0.mk (Kd.R_drew HO_5.out)
                          have n2_ := Aside0.mk (blk_drew BK455.out)
                          have n3_ := Aside0.mk (below_drew1 HB.out)
                          clear HO_4
                          clear HO_5
                          clear BK455
                          clear HB
                          have HO_4 := n0_
                          have HO_5 := n1_
                          have BK455 := n2_
                          have HB := n3_
                          clear n0_ n1_ n2_ n3_
                          have p471 : 0 ≤ (x9_4 : Int) := oda
                          have q471 : x9_4 < ((rd_L1 (rd_L5 l0_1 x6_2) x7_3).length : Int) := oda
                          obtain ⟨ad471, e471, hx471_0⟩ := Kd.at_int HR465_0.out x9_4 p471 q471
                          have hw471_0 := hx471_0
                          obtain rfl : ad466 = ad471 := (by injection e471)
                          replace hx471_0 := (HB.out.cell (World.block_lt_of_cell? w _ hx471_0)).trans hx471_0
                          replace p471 := eq_true p471
                          replace q471 := eq_true q471
                          have p472 : 0 ≤ (x9_4 : Int) := oda
                          have q472 : x9_4 < ((rd_L1 (rd_L5 l0_1 x6_2) x7_3).length : Int) := oda
                          obtain ⟨ad472, e472, hx472_0⟩ := Kd.at_int HR465_0.out x9_4 p472 q472
                          have hw472_0 := hx472_0
                          obtain rfl : ad466 = ad472 := (by injection e472)
                          replace hx472_0 := (HB.out.cell (World.block_lt_of_cell? w _ hx472_0)).trans hx472_0
                          replace p472 := eq_true p472
                          replace q472 := eq_true q472
                          obtain ⟨Ao51, co51, eo51⟩ := Kd.R_slice HO_5.out
                          (first | subst eo51 | (injection eo51 with f1_ f2_ f3_; have f4_ := f1_.symm; have f5_ := f3_.symm; clear f1_ f2_ f3_; subst f4_; subst f5_))
                          have p473 : 0 ≤ ((rd (rd_L1 (rd_L5 l0_1 x6_2) x7_3) x9_4) : Int) := oda
                          have q473 : (rd (rd_L1 (rd_L5 l0_1 x6_2) x7_3) x9_4) < (x5_4.length : Int) := oda
                          obtain ⟨ad473, e473, hx473_0⟩ := Kd.at_bool (Kd.R_reads' HO_5.out).2.2 (rd (rd_L1 (rd_L5 l0_1 x6_2) x7_3) x9_4) p473 q473
                          (try rw [← Nbq35.out] at hx473_0)
                          cases e473
                          replace p473 := eq_true p473
                          replace q473 := eq_true q473
                          have p45 : 0 ≤ ((rd (rd_L1 (rd_L5 l0_1 x6_2) x7_3) x9_4) : Int) := oda
                          have q45 : ((rd (rd_L1 (rd_L5 l0_1 x6_2) x7_3) x9_4) : Int) < ((x5_4.length : Int) : Int) := oda
                          obtain ⟨go45, co45, eo45, gb45, gl45, cl45, HG45⟩ := Kd.R_form HO_5.out (by omega)
                          (first | cases eo45 | (injection eo45 with ea_ en_ ec_; (first | subst ea_ | (injection ea_ with ea_; subst ea_)); subst ec_; clear en_))
                          have GB45 := Aside0.mk gb45
                          have GG45 := Aside0.mk HG45
                          clear gb45 gl45 HG45
                          (first | simp only [add_plain] at hx473_0 | skip)
                          obtain ⟨hx45_0, hf45_0⟩ := Kd.R_celln false HO_5.out ((rd (rd_L1 (rd_L5 l0_1 x6_2) x7_3) x9_4) : Int) p45 q45
                          replace p45 := eq_true p45
                          replace q45 := eq_true q45
                          have HP52 := Kd.R_putn HO_5.out ((rd (rd_L1 (rd_L5 l0_1 x6_2) x7_3) x9_4) : Int) (((rd_L1 (rd_L5 l0_1 x6_2) x7_3).length : Int) == 1)
                          rw [← Ny475.out] at HP52
                          have HQ52 := Aside0.mk HP52
                          clear HP52
                          refine start_ (n := 19) (S := fun w' => w'.cell? (ad466.add (x9_4).toNat) = some (.int .i64 (rd (rd_L1 (rd_L5 l0_1 x6_2) x7_3) x9_4)) ∧ w'.cell? (ad466.add (x9_4).toNat) = some (.int .i64 (rd (rd_L1 (rd_L5 l0_1 x6_2) x7_3) x9_4)) ∧ w'.cell? ⟨go45, ((rd (rd_L1 (rd_L5 l0_1 x6_2) x7_3) x9_4) : Int).toNat, none⟩ = some (.bool false)) (ds := [18]) #[false, false, false, false, false, false, false, false, false, false, false, false, false, false, false, false, false, false, false] (by kernel_rfl) rfl rfl ⟨((HB.out.cell (World.block_lt_of_cell? w _ hw471_0)).trans hw471_0), ((HB.out.cell (World.block_lt_of_cell? w _ hw472_0)).trans hw472_0), hx473_0⟩ (fun hHeld => ?_); refine with_tabW spec_l02Degrees.tab19 spec_l02Degrees.bits19 (fun HT_ HW_ => ?_)
                          generalize w49.drew = w50 at HO_4 HO_5 BK455 HB GG45 HQ52 hf45_0 hx45_0 hx471_0 hx472_0 hx473_0 hHeld ⊢
                          refine pure_ (i := 0) (N := some 79) (v := ?_) (a' := ?_) #[true, false, false, false, false, false, false, false, false, false, false, false, false, false, false, false, false, false, false] rfl rfl (any_of HT_.out (by kernel_rfl)) (fun _ _ _ h => h) (Or.inl ⟨by rfl, ?_⟩) ?_ ?_
                          rotate_left; (· (intro w'; go_simp; with_reducible rfl)); rotate_left; (· (simp only [Act.put, List.setIfInBounds_toArray, List.set_cons_zero, List.set_cons_succ, i64_w, i32_w]; rfl))
                          refine pure_ (i := 1) (N := some 80) (v := ?_) (a' := ?_) #[true, true, false, false, false, false, false, false, false, false, false, false, false, false, false, false, false, false, false] rfl rfl (any_of HT_.out (by kernel_rfl)) (fun _ _ _ h => h) (Or.inl ⟨by rfl, ?_⟩) ?_ ?_
                          rotate_left; (· (intro w'; go_simp; with_reducible rfl)); rotate_left; (· (simp only [Act.put, List.setIfInBounds_toArray, List.set_cons_zero, List.set_cons_succ, i64_w, i32_w]; rfl))
                          refine pure_ (i := 2) (N := some 81) (v := ?_) (a' := ?_) #[true, true, true, false, false, false, false, false, false, false, false, false, false, false, false, false, false, false, false] rfl rfl (any_of HT_.out (by kernel_rfl)) (fun _ _ _ h => h) (Or.inl ⟨by rfl, ?_⟩) ?_ ?_
                          rotate_left; (· (intro w'; go_simp; with_reducible rfl)); rotate_left; (· (simp only [Act.put, List.setIfInBounds_toArray, List.set_cons_zero, List.set_cons_succ, i64_w, i32_w]; rfl))
                          refine pure_ (i := 3) (N := some 82) (v := ?_) (a' := ?_) #[true, true, true, true, false, false, false, false, false, false, false, false, false, false, false, false, false, false, false] rfl rfl (any_of HT_.out (by kernel_rfl)) (fun _ _ _ h => h) (Or.inl ⟨by rfl, ?_⟩) ?_ ?_
                          rotate_left; (· (intro w'; go_simp; with_reducible rfl)); rotate_left; (· (simp only [Act.put, List.setIfInBounds_toArray, List.set_cons_zero, List.set_cons_succ, i64_w, i32_w]; rfl))
                          refine pure_ (i := 5) (N := some 84) (v := ?_) (a' := ?_) #[true, true, true, true, false, true, false, false, false, false, false, false, false, false, false, false, false, false, false] rfl rfl (any_of HT_.out (by kernel_rfl)) (fun _ _ _ h => h) (Or.inl ⟨by rfl, ?_⟩) ?_ ?_
                          rotate_left; (· (intro w'; go_simp; with_reducible rfl)); rotate_left; (· (simp only [Act.put, List.setIfInBounds_toArray, List.set_cons_zero, List.set_cons_succ, i64_w, i32_w]; rfl))
                          refine pure_ (i := 6) (N := some 85) (v := ?_) (a' := ?_) #[true, true, true, true, false, true, true, false, false, false, false, false, false, false, false, false, false, false, false] rfl rfl (any_of HT_.out (by kernel_rfl)) (fun _ _ _ h => h) (Or.inl ⟨by rfl, ?_⟩) ?_ ?_
                          rotate_left; (· (intro w'; go_simp; with_reducible rfl)); rotate_left; (· (simp only [Act.put, List.setIfInBounds_toArray, List.set_cons_zero, List.set_cons_succ, i64_w, i32_w]; rfl))
                          refine pure_ (i := 7) (N := some 86) (v := ?_) (a' := ?_) #[true, true, true, true, false, true, true, true, false, false, false, false, false, false, false, false, false, false, false] rfl rfl (any_of HT_.out (by kernel_rfl)) (fun _ _ _ h => h) (Or.inl ⟨by rfl, ?_⟩) ?_ ?_
                          rotate_left; (· (intro w'; go_simp; with_reducible rfl)); rotate_left; (· (simp only [Act.put, List.setIfInBounds_toArray, List.set_cons_zero, List.set_cons_succ, i64_w, i32_w]; rfl))
                          refine pure_ (i := 8) (N := some 87) (v := ?_) (a' := ?_) #[true, true, true, true, false, true, true, true, true, false, false, false, false, false, false, false, false, false, false] rfl rfl (any_of HT_.out (by kernel_rfl)) (fun _ _ _ h => h) (Or.inl ⟨by rfl, ?_⟩) ?_ ?_
                          rotate_left; (· (intro w'; go_simp; with_reducible rfl)); rotate_left; (· (simp only [Act.put, List.setIfInBounds_toArray, List.set_cons_zero, List.set_cons_succ, i64_w, i32_w]; rfl))
                          refine take_ (i := 4) (N := some 83) (v := ?_) (a' := ?_) #[true, true, true, true, true, true, true, true, true, false, false, false, false, false, false, false, false, false, false] rfl rfl (take_ofW HT_.out HW_.out (by kernel_rfl)) (fun _ _ _ h => h) (Or.inl ⟨by rfl, ?_⟩) hHeld ?_ ?_
                          rotate_left; (· (rintro w' ⟨s0, s1, s2⟩; go_simp; with_reducible rfl)); rotate_left; (· (simp only [Act.put, List.setIfInBounds_toArray, List.set_cons_zero, List.set_cons_succ, i64_w, i32_w]; rfl))
                          refine take_ (i := 9) (N := some 88) (v := ?_) (a' := ?_) #[true, true, true, true, true, true, true, true, true, true, false, false, false, false, false, false, false, false, false] rfl rfl (take_ofW HT_.out HW_.out (by kernel_rfl)) (fun _ _ _ h => h) (Or.inl ⟨by rfl, ?_⟩) hHeld ?_ ?_
                          rotate_left; (· (rintro w' ⟨s0, s1, s2⟩; go_simp; with_reducible rfl)); rotate_left; (· (simp only [Act.put, List.setIfInBounds_toArray, List.set_cons_zero, List.set_cons_succ, i64_w, i32_w]; rfl))
                          refine pure_ (i := 10) (N := some 89) (v := ?_) (a' := ?_) #[true, true, true, true, true, true, true, true, true, true, true, false, false, false, false, false, false, false, false] rfl rfl (any_of HT_.out (by kernel_rfl)) (fun _ _ _ h => h) (Or.inl ⟨by rfl, ?_⟩) ?_ ?_
                          rotate_left; (· (intro w'; go_simp; with_reducible rfl)); rotate_left; (· (simp only [Act.put, List.setIfInBounds_toArray, List.set_cons_zero, List.set_cons_succ, i64_w, i32_w]; rfl))
                          refine take_ (i := 11) (N := some 90) (v := ?_) (a' := ?_) #[true, true, true, true, true, true, true, true, true, true, true, true, false, false, false, false, false, false, false] rfl rfl (take_ofW HT_.out HW_.out (by kernel_rfl)) (fun _ _ _ h => h) (Or.inl ⟨by rfl, ?_⟩) hHeld ?_ ?_
                          rotate_left; (· (rintro w' ⟨s0, s1, s2⟩; go_simp; with_reducible rfl)); rotate_left; (· (simp only [Act.put, List.setIfInBounds_toArray, List.set_cons_zero, List.set_cons_succ, i64_w, i32_w]; rfl))
                          refine pure_ (i := 12) (N := some 91) (v := ?_) (a' := ?_) #[true, true, true, true, true, true, true, true, true, true, true, true, true, false, false, false, false, false, false] rfl rfl (any_of HT_.out (by kernel_rfl)) (fun _ _ _ h => h) (Or.inl ⟨by rfl, ?_⟩) ?_ ?_
                          rotate_left; (· (intro w'; go_simp; with_reducible rfl)); rotate_left; (· (simp only [Act.put, List.setIfInBounds_toArray, List.set_cons_zero, List.set_cons_succ, i64_w, i32_w]; rfl))
                          refine pure_ (i := 13) (N := some 92) (v := ?_) (a' := ?_) #[true, true, true, true, true, true, true, true, true, true, true, true, true, true, false, false, false, false, false] rfl rfl (any_of HT_.out (by kernel_rfl)) (fun _ _ _ h => h) (Or.inl ⟨by rfl, ?_⟩) ?_ ?_
                          rotate_left; (· (intro w'; go_simp; with_reducible rfl)); rotate_left; (· (simp only [Act.put, List.setIfInBounds_toArray, List.set_cons_zero, List.set_cons_succ, i64_w, i32_w]; rfl))
                          refine pure_ (i := 14) (N := some 93) (v := ?_) (a' := ?_) #[true, true, true, true, true, true, true, true, true, true, true, true, true, true, true, false, false, false, false] rfl rfl (any_of HT_.out (by kernel_rfl)) (fun _ _ _ h => h) (Or.inl ⟨by rfl, ?_⟩) ?_ ?_
                          rotate_left; (· (intro w'; go_simp; with_reducible rfl)); rotate_left; (· (simp only [Act.put, List.setIfInBounds_toArray, List.set_cons_zero, List.set_cons_succ, i64_w, i32_w]; rfl))
                          refine pure_ (i := 15) (N := some 94) (v := ?_) (a' := ?_) #[true, true, true, true, true, true, true, true, true, true, true, true, true, true, true, true, false, false, false] rfl rfl (any_of HT_.out (by kernel_rfl)) (fun _ _ _ h => h) (Or.inl ⟨by rfl, ?_⟩) ?_ ?_
                          rotate_left; (· (intro w'; go_simp; with_reducible rfl)); rotate_left; (· (simp only [Act.put, List.setIfInBounds_toArray, List.set_cons_zero, List.set_cons_succ, i64_w, i32_w]; rfl))
                          refine pure_ (i := 16) (N := some 95) (v := ?_) (a' := ?_) #[true, true, true, true, true, true, true, true, true, true, true, true, true, true, true, true, true, false, false] rfl rfl (any_of HT_.out (by kernel_rfl)) (fun _ _ _ h => h) (Or.inl ⟨by rfl, ?_⟩) ?_ ?_
                          rotate_left; (· (intro w'; go_simp; with_reducible rfl)); rotate_left; (· (simp only [Act.put, List.setIfInBounds_toArray, List.set_cons_zero, List.set_cons_succ, i64_w, i32_w]; rfl))
                          refine pure_ (i := 17) (N := some 96) (v := ?_) (a' := ?_) #[true, true, true, true, true, true, true, true, true, true, true, true, true, true, true, true, true, true, false] rfl rfl (any_of HT_.out (by kernel_rfl)) (fun _ _ _ h => h) (Or.inl ⟨by rfl, ?_⟩) ?_ ?_
                          rotate_left; (· (intro w'; go_simp; with_reducible rfl)); rotate_left; (· (simp only [Act.put, List.setIfInBounds_toArray, List.set_cons_zero, List.set_cons_succ, i64_w, i32_w]; rfl))
                          refine last_ (i := 18) (N := none) #[true, true, true, true, true, true, true, true, true, true, true, true, true, true, true, true, true, true, true] rfl rfl (one_of HT_.out (by kernel_rfl)) (by decide) (fun K hK => ?_)
                          refine skip_ (w1 := ?_) (by rfl) rfl ?_ ?_
                          rotate_left
                          ·go_simp
                           rfl
                          refine hK.out _ _ ?_
                          clear hK K
                          refine done_ (done_of HT_.out (by kernel_rfl)) ?_
                          try go_wp2
                          go_roundg k4
                          case measure => have := HJ1.out; have := HK2.out; have := HK3.out; have := HK4.out; omega
                          case rel => exact ⟨(y470), (y475), (wrap64 (x9_4 + 1)), (by first | rfl | (simp; done) | (simp [*]; done)), H', ⟨by have := HJ1.out; have := HK2.out; have := HK3.out; have := HK4.out; omega⟩, ⟨by (with_reducible repeat (first | apply Kd.R_alloc | apply Kd.R_drewN | apply Kd.R_drew)); exact Kd.R_mono (Kd.R_far (p := ⟨go45, ((rd (rd_L1 (rd_L5 l0_1 x6_2) x7_3) x9_4) : Int).toNat, none⟩) (Kd.R_types HO_4.out GG45.out (by decide)) (fun _ hk => hk.2) (.bool (((rd_L1 (rd_L5 l0_1 x6_2) x7_3).length : Int) == 1))) (fun _ hk => trivial)⟩, ⟨by (with_reducible repeat (first | apply Kd.R_alloc | apply Kd.R_drewN | apply Kd.R_drew)); exact HQ52.out⟩, ⟨by (with_reducible repeat (first | refine blk_drewN ?_ _ | refine blk_drew ?_ | refine blk_alloc ?_ _)); refine blk_far ?_ (by have h_ := Kd.R_ne HO_5.out BK455.out (by decide); intro e_; exact h_ (by rw [e_]; rfl)) _; (with_reducible repeat (first | refine blk_drewN ?_ _ | refine blk_drew ?_ | refine blk_alloc ?_ _)); exact BK455.out⟩, ⟨by repeat (first | (with_reducible first | exact HB.out | apply below_alloc | apply pw_below_drewN | apply below_drew1 | refine below_set ?_ GB45.out | refine below_set ?_ GE455.out) | exact HB.out)⟩⟩
                        ·rw [if_neg c34] at H
                         exact absurd H (by simp)
                       ·rw [if_neg c32] at H
                        exact absurd H (by simp)
                      ·rw [if_neg c31] at H
                       exact absurd H (by simp)
                     ·replace c30 := Bool.eq_false_iff.mpr c30
                      subst c30
                      have H1 : (some (([] : List Int), false)) = some (r1, r2) := by rw [if_neg (show ¬ (false = true) by decide)] at H; exact H
                      clear H
                      have H := H1
                      clear H1
                      simp only [Option.some.injEq, Prod.mk.injEq] at H
                      obtain ⟨rfl, rfl⟩ := H
                      try go_wp2
                      have n0_ := Aside0.mk (Kd.R_drew HO_4.out)
                      have n1_ := Aside0.mk (Kd.R_drew HO_5.out)
                      have n2_ := Aside0.mk (blk_drew BK455.out)
                      have n3_ := Aside0.mk (below_drew1 HB.out)
                      clear HO_4
                      clear HO_5
                      clear BK455
                      clear HB
                      have HO_4 := n0_
                      have HO_5 := n1_
                      have BK455 := n2_
                      have HB := n3_
                      clear n0_ n1_ n2_ n3_
                      have p466 : 0 ≤ (x9_4 : Int) := oda
                      have q466 : x9_4 < ((rd_L1 (rd_L5 l0_1 x6_2) x7_3).length : Int) := oda
                      obtain ⟨ad466, e466, hx466_0⟩ := Kd.at_int HR465_0.out x9_4 p466 q466
                      have hw466_0 := hx466_0
                      cases e466
                      replace hx466_0 := (HB.out.cell (World.block_lt_of_cell? w _ hx466_0)).trans hx466_0
                      replace p466 := eq_true p466
                      replace q466 := eq_true q466
                      refine start_ (n := 9) (S := fun w' => w'.cell? ⟨gb455, 0, none⟩ = some (.int .i64 a0_0) ∧ w'.cell? ⟨gb455, 1, none⟩ = some (.slice (some ad463) l0_1.length c0_1) ∧ w'.cell? (ad466.add (x9_4).toNat) = some (.int .i64 (rd (rd_L1 (rd_L5 l0_1 x6_2) x7_3) x9_4))) (ds := []) #[false, false, false, false, false, false, false, false, false] (by kernel_rfl) rfl rfl ⟨(blk_cell BK455.out 0).trans rfl, (blk_cell BK455.out 1).trans rfl, ((HB.out.cell (World.block_lt_of_cell? w _ hw466_0)).trans hw466_0)⟩ (fun hHeld => ?_); refine with_tabW spec_l02Degrees.tab16 spec_l02Degrees.bits16 (fun HT_ HW_ => ?_)
                      generalize wr.drew = w53 at HO_4 HO_5 BK455 HB hx466_0 hHeld ⊢
                      refine pure_ (i := 0) (N := some 61) (v := ?_) (a' := ?_) #[true, false, false, false, false, false, false, false, false] rfl rfl (any_of HT_.out (by kernel_rfl)) (fun _ _ _ h => h) (Or.inl ⟨by rfl, ?_⟩) ?_ ?_
                      rotate_left; (· (intro w'; go_simp; with_reducible rfl)); rotate_left; (· (simp only [Act.put, List.setIfInBounds_toArray, List.set_cons_zero, List.set_cons_succ, i64_w, i32_w]; rfl))
                      refine pure_ (i := 1) (N := some 62) (v := ?_) (a' := ?_) #[true, true, false, false, false, false, false, false, false] rfl rfl (any_of HT_.out (by kernel_rfl)) (fun _ _ _ h => h) (Or.inl ⟨by rfl, ?_⟩) ?_ ?_
                      rotate_left; (· (intro w'; go_simp; with_reducible rfl)); rotate_left; (· (simp only [Act.put, List.setIfInBounds_toArray, List.set_cons_zero, List.set_cons_succ, i64_w, i32_w]; rfl))
                      refine pure_ (i := 2) (N := some 63) (v := ?_) (a' := ?_) #[true, true, true, false, false, false, false, false, false] rfl rfl (any_of HT_.out (by kernel_rfl)) (fun _ _ _ h => h) (Or.inl ⟨by rfl, ?_⟩) ?_ ?_
                      rotate_left; (· (intro w'; go_simp; with_reducible rfl)); rotate_left; (· (simp only [Act.put, List.setIfInBounds_toArray, List.set_cons_zero, List.set_cons_succ, i64_w, i32_w]; rfl))
                      refine pure_ (i := 4) (N := some 65) (v := ?_) (a' := ?_) #[true, true, true, false, true, false, false, false, false] rfl rfl (any_of HT_.out (by kernel_rfl)) (fun _ _ _ h => h) (Or.inl ⟨by rfl, ?_⟩) ?_ ?_
                      rotate_left; (· (intro w'; go_simp; with_reducible rfl)); rotate_left; (· (simp only [Act.put, List.setIfInBounds_toArray, List.set_cons_zero, List.set_cons_succ, i64_w, i32_w]; rfl))
                      refine take_ (i := 3) (N := some 64) (v := ?_) (a' := ?_) #[true, true, true, true, true, false, false, false, false] rfl rfl (take_ofW HT_.out HW_.out (by kernel_rfl)) (fun _ _ _ h => h) (Or.inl ⟨by rfl, ?_⟩) hHeld ?_ ?_
                      rotate_left; (· (rintro w' ⟨s0, s1, s2⟩; go_simp; with_reducible rfl)); rotate_left; (· (simp only [Act.put, List.setIfInBounds_toArray, List.set_cons_zero, List.set_cons_succ, i64_w, i32_w]; rfl))
                      refine take_ (i := 5) (N := some 66) (v := ?_) (a' := ?_) #[true, true, true, true, true, true, false, false, false] rfl rfl (take_ofW HT_.out HW_.out (by kernel_rfl)) (fun _ _ _ h => h) (Or.inl ⟨by rfl, ?_⟩) hHeld ?_ ?_
                      rotate_left; (· (rintro w' ⟨s0, s1, s2⟩; go_simp; with_reducible rfl)); rotate_left; (· (simp only [Act.put, List.setIfInBounds_toArray, List.set_cons_zero, List.set_cons_succ, i64_w, i32_w]; rfl))
                      refine pure_ (i := 6) (N := some 67) (v := ?_) (a' := ?_) #[true, true, true, true, true, true, true, false, false] rfl rfl (any_of HT_.out (by kernel_rfl)) (fun _ _ _ h => h) (Or.inl ⟨by rfl, ?_⟩) ?_ ?_
                      rotate_left; (· (intro w'; go_simp; with_reducible rfl)); rotate_left; (· (simp only [Act.put, List.setIfInBounds_toArray, List.set_cons_zero, List.set_cons_succ, i64_w, i32_w]; rfl))
                      refine one_ (i := 7) (N := some 68) #[true, true, true, true, true, true, true, true, false] rfl rfl (one_of HT_.out (by kernel_rfl)) (by decide) (fun K hK => ?_)
                      refine goes_ Try.func41 (by kernel_rfl) rfl #[.int .i64 (rd (rd_L1 (rd_L5 l0_1 x6_2) x7_3) x9_4), .int .i64 0, .int .i64 (wrap64 (a0_0 - 1))] (by rfl) rfl rfl (by (try simp only [List.map_toArray, List.map_cons, List.map_nil]); first | done | rfl | (simp only [List.length_drop, List.length_take]; rfl)) ?_
                      with_reducible refine (spec_l01In.calls (rd (rd_L1 (rd_L5 l0_1 x6_2) x7_3) x9_4) 0 (wrap64 (a0_0 - 1)) false _ A29.out).mono ?_
                      rintro e w' ⟨rfl, ⟨nd, rfl⟩⟩
                      refine ⟨_, rfl, ?_⟩
                      refine hK.out _ _ ⟨(blk_cell BK455.out 0).trans rfl, (blk_cell BK455.out 1).trans rfl, ((HB.out.cell (World.block_lt_of_cell? w _ hw466_0)).trans hw466_0)⟩ (fun hHeld => ?_)
                      clear hK K
                      refine norm_ (a' := ?_) ?_ ?_
                      rotate_left
                      ·show Act.put _ (some 68) _ = _
                       simp only [Act.put, List.setIfInBounds_toArray, List.set_cons_zero, List.set_cons_succ, i64_w, i32_w]
                       rfl
                      refine pure_ (i := 8) (N := some 69) (v := ?_) (a' := ?_) #[true, true, true, true, true, true, true, true, true] rfl rfl (any_of HT_.out (by kernel_rfl)) (fun _ _ _ h => h) (Or.inl ⟨by rfl, ?_⟩) ?_ ?_
                      rotate_left; (· (intro w'; go_simp; with_reducible rfl)); rotate_left; (· (simp only [Act.put, List.setIfInBounds_toArray, List.set_cons_zero, List.set_cons_succ, i64_w, i32_w]; rfl))
                      refine done_ (done_of HT_.out (by kernel_rfl)) ?_
                      (try (rw [drewN_self w53]; generalize hq_ : World.drewN w53 _ = w53; have n0_ := Aside0.mk (by first | exact Kd.R_at hq_ HO_4.out | exact Kd.S_at hq_ HO_4.out | exact Kd.N_at hq_ HO_4.out | exact Kd.V_at hq_ HO_4.out); have n1_ := Aside0.mk (by first | exact Kd.R_at hq_ HO_5.out | exact Kd.S_at hq_ HO_5.out | exact Kd.N_at hq_ HO_5.out | exact Kd.V_at hq_ HO_5.out); have n2_ := Aside0.mk (blk_at hq_ BK455.out); have n3_ := Aside0.mk (below_at hq_ HB.out); clear hq_ HO_4 HO_5 BK455 HB; have HO_4 := n0_; have HO_5 := n1_; have BK455 := n2_; have HB := n3_; clear n0_ n1_ n2_ n3_))
                      try go_wp2
                      go_ret2
                      exact ⟨_, by first | rfl | (simp [errW_none, errW_some] <;> rfl) | (simp [*, errW_none, errW_some] <;> rfl), by first | exact Kd.R_nil _ _ _ _ _ | exact Kd.N_nil _ _ _ _ _ | exact Kd.V_nil _ _ _ _ _ | exact Kd.Q_nil _ _ _ _ _ | exact Kd.S_nil _ _ _ _ _, by repeat (first | (with_reducible first | exact HB.out | apply below_alloc | apply pw_below_drewN | apply below_drew1 | refine below_set ?_ GE455.out) | exact HB.out)⟩
                    ·rw [if_neg c28] at H
                     exact absurd H (by simp)
                   ·rw [if_neg c27] at H
                    have c27b0 : decide (x9_4 < ((rd_L1 (rd_L5 l0_1 x6_2) x7_3).length : Int)) = false := decide_eq_false c27
                    clear c27
                    have H' := Aside0.mk H
                    clear H
                    go_wp2
                    go_roundg k4
                    case measure => have := HJ1.out; have := HK2.out; have := HK3.out; have := HK4.out; omega
                    case rel => exact ⟨(x4_4), (x5_4), (wrap64 (x7_3 + 1)), (by first | rfl | (simp; done) | (simp [*]; done)), H', ⟨by have := HJ1.out; have := HK2.out; have := HK3.out; have := HK4.out; omega⟩, ⟨by (with_reducible repeat (first | apply Kd.R_alloc | apply Kd.R_drewN | apply Kd.R_drew)); exact HO_4.out⟩, ⟨by (with_reducible repeat (first | apply Kd.R_alloc | apply Kd.R_drewN | apply Kd.R_drew)); exact HO_5.out⟩, ⟨by (with_reducible repeat (first | refine blk_drewN ?_ _ | refine blk_drew ?_ | refine blk_alloc ?_ _)); exact BK455.out⟩, ⟨by repeat (first | (with_reducible first | exact HB.out | apply below_alloc | apply pw_below_drewN | apply below_drew1 | refine below_set ?_ GE455.out) | exact HB.out)⟩⟩
               ·rw [if_neg c23] at H
                exact absurd H (by simp)
              ·rw [if_neg c22] at H
               have c22b0 : decide (x7_3 < ((rd_L5 l0_1 x6_2).length : Int)) = false := decide_eq_false c22
               clear c22
               have H' := Aside0.mk H
               clear H
               have hcz54_0 : wr.cell? ⟨gb455, 0, none⟩ = some (.int .i64 a0_0) := (blk_cell BK455.out 0).trans rfl
               have hcz54_1 : wr.cell? ⟨gb455, 1, none⟩ = some (.slice A0_1 l0_1.length c0_1) := (blk_cell BK455.out 1).trans rfl
               have hfz54_0 := blk_frozen BK455.out 0
               have hfz54_1 := blk_frozen BK455.out 1
               have p463 : 0 ≤ (x6_2 : Int) := oda
               have q463 : x6_2 < (l0_1.length : Int) := oda
               obtain ⟨ad463, A463_0, c463_0, e463, hx463_0, hl463_0, hi463_0⟩ := at_L5 HR0_1.out x6_2 p463 q463
               cases e463
               replace hx463_0 := (HB.out.cell (World.block_lt_of_cell? w _ hx463_0)).trans hx463_0
               have HR463_0 := Aside0.mk hi463_0
               have HC463_0 := Aside0.mk hl463_0
               clear hi463_0 hl463_0
               replace p463 := eq_true p463
               replace q463 := eq_true q463
               go_wp2
               go_roundg k3
               case measure => have := HJ1.out; have := HK2.out; have := HK3.out; omega
               case rel => exact ⟨(x4_3), (x5_3), (wrap64 (x6_2 + 1)), (by first | rfl | (simp; done) | (simp [*]; done)), H', ⟨by have := HJ1.out; have := HK2.out; have := HK3.out; omega⟩, ⟨by (with_reducible repeat (first | apply Kd.R_alloc | apply Kd.R_drewN | apply Kd.R_drew)); exact HO_4.out⟩, ⟨by (with_reducible repeat (first | apply Kd.R_alloc | apply Kd.R_drewN | apply Kd.R_drew)); exact HO_5.out⟩, ⟨by (with_reducible repeat (first | refine blk_drewN ?_ _ | refine blk_drew ?_ | refine blk_alloc ?_ _)); exact BK455.out⟩, ⟨by repeat (first | (with_reducible first | exact HB.out | apply below_alloc | apply pw_below_drewN | apply below_drew1 | refine below_set ?_ GE455.out) | exact HB.out)⟩⟩
             ·rw [if_neg c21] at H
              exact absurd H (by simp)
            ·rw [if_neg c20] at H
             exact absurd H (by simp)
         ·rw [if_neg c18] at H
          have c18b0 : decide (x6_2 < (l0_1.length : Int)) = false := decide_eq_false c18
          clear c18
          have H' := Aside0.mk H
          clear H
          have hcz55_0 : wr.cell? ⟨gb455, 0, none⟩ = some (.int .i64 a0_0) := (blk_cell BK455.out 0).trans rfl
          have hcz55_1 : wr.cell? ⟨gb455, 1, none⟩ = some (.slice A0_1 l0_1.length c0_1) := (blk_cell BK455.out 1).trans rfl
          have hfz55_0 := blk_frozen BK455.out 0
          have hfz55_1 := blk_frozen BK455.out 1
          go_wp2
          go_loopg [10] k2 (fun kq v10 w' => ∃ (x4_3 : List Int) (x10_3 : Int), v10 = .int .i64 x10_3 ∧ Aside0 (spec_l02Degrees.l3 kq x4_3 x5_2 x10_3 = some (r1, r2)) ∧ Aside0 (kq ≤ k2) ∧ Aside0 (Kd.R (Kd.int .i64) 2 w' w.heap.size (fun _ => True) v458 x4_3) ∧ Aside0 (Kd.R Kd.bool 4 w' w.heap.size (fun _ => True) v461 x5_2) ∧ Aside0 (w'.heap[gb455]? = some (.cells #[.int .i64 a0_0, (.slice A0_1 l0_1.length c0_1)] 43 (0, 0))) ∧ Aside0 (Below w.heap.size w w'))
          case atStart => exact ⟨(x4_2), (0), (by first | rfl | (simp; done) | (simp [*]; done)), H', ⟨Nat.le_refl _⟩, ⟨by (with_reducible repeat (first | apply Kd.R_alloc | apply Kd.R_drewN | apply Kd.R_drew)); exact HO_4.out⟩, ⟨by (with_reducible repeat (first | apply Kd.R_alloc | apply Kd.R_drewN | apply Kd.R_drew)); exact HO_5.out⟩, ⟨by (with_reducible repeat (first | refine blk_drewN ?_ _ | refine blk_drew ?_ | refine blk_alloc ?_ _)); exact BK455.out⟩, ⟨by repeat (first | (with_reducible first | exact HB.out | apply below_alloc | apply pw_below_drewN | apply below_drew1 | refine below_set ?_ GE455.out) | exact HB.out)⟩⟩
          case round =>
           clear H'
           (try clear c1); (try clear c2); (try clear p2); (try clear c3); (try clear p3); (try clear q3); (try clear hx3); (try clear hf3); (try clear c4); (try clear p4); (try clear q4); (try clear hx4); (try clear hf4); (try clear p6); (try clear c18); (try clear c18b0); (try clear c20); (try clear c21); (try clear c22); (try clear c22b0); (try clear c23); (try clear c27); (try clear c27b0); (try clear c28); (try clear c30); (try clear c31); (try clear c32); (try clear p33); (try clear q33); (try clear hx33); (try clear hf33); (try clear c34); (try clear q35); (try clear c36); (try clear c41); (try clear p45); (try clear q45); (try clear hx45); (try clear hf45); (try clear c46); (try clear p46); (try clear q46); (try clear hx46); (try clear p47); (try clear q47); (try clear hx47); (try clear hcz54_0); (try clear hcz54_1); (try clear hcz55_0); (try clear hcz55_1); (try clear hfz54_0); (try clear hfz54_1); (try clear hfz55_0); (try clear hfz55_1); (try clear hx33_0); (try clear hx45_0); (try clear hx463_0); (try clear hx466_0); (try clear hx468_0); (try clear hx469_0); (try clear hx471_0); (try clear hx472_0); (try clear hx473_0); (try clear p33); (try clear p45); (try clear p463); (try clear p466); (try clear p468); (try clear p469); (try clear p471); (try clear p472); (try clear p473); (try clear q33); (try clear q45); (try clear q463); (try clear q466); (try clear q468); (try clear q469); (try clear q471); (try clear q472); (try clear q473)
           obtain ⟨x4_3, x10_3, rfl, HA, HK3, HO_4, HO_5, BK455, HB⟩ := hrel
           cases gk with
           | zero => exact absurd HA.out (by simp [spec_l02Degrees.l3])
           | succ k3 =>
            have H := HA.out
            clear HA
            simp only [spec_l02Degrees.l3] at H
            by_cases c56 : x10_3 < (x4_3.length : Int)
            ·rw [if_pos c56] at H
             have c56b0 : decide (x10_3 < (x4_3.length : Int)) = true := decide_eq_true c56
             clear c56
             have HC57 := Aside0.mk H
             clear H
             obtain ⟨Ao58, co58, eo58⟩ := Kd.R_slice HO_4.out
             subst eo58
             go_upto_region 23 with (fail)
             go_cut [127] (fun v127 wc => ∃ (kq : Nat) (x127_56 : Bool), v127 = .bool x127_56 ∧ Aside0 (spec_l02Degrees.j5 kq x4_3 x5_2 x10_3 x127_56 = some (r1, r2)) ∧ Aside0 (kq ≤ k3) ∧ Aside0 (Kd.R (Kd.int .i64) 2 wc w.heap.size (fun _ => True) (.slice Ao58 x4_3.length co58) x4_3) ∧ Aside0 (Kd.R Kd.bool 4 wc w.heap.size (fun _ => True) v461 x5_2) ∧ Aside0 (wc.heap[gb455]? = some (.cells #[.int .i64 a0_0, (.slice A0_1 l0_1.length c0_1)] 43 (0, 0))) ∧ Aside0 (Below w.heap.size w wc))
             case first =>
              have H := HC57.out
              clear HC57
              by_cases c59 : 0 ≤ x10_3
              ·rw [if_pos c59] at H
               have c59b0 : decide (0 ≤ x10_3) = true := decide_eq_true c59
               clear c59
               (first | rw [c59b0] | (simp only [i64_w, i32_w]; rw [c59b0]) | skip)
               by_cases c60 : (rd x4_3 x10_3) < 1
               ·rw [if_pos c60] at H
                have c60b0 : decide ((rd x4_3 x10_3) < 1) = true := decide_eq_true c60
                clear c60
                have H' := Aside0.mk H
                clear H
                have p476 : 0 ≤ (x10_3 : Int) := oda
                have q476 : x10_3 < (x4_3.length : Int) := oda
                obtain ⟨ad476, e476, hx476_0⟩ := Kd.at_int (Kd.R_reads' HO_4.out).2.2 x10_3 p476 q476
                cases e476
                replace p476 := eq_true p476
                replace q476 := eq_true q476
                go_wp2
                go_meet
                case rel => exact ⟨_, (true), (by first | rfl | (simp; done) | (simp [*]; done)), H', ⟨by have := HJ1.out; have := HK2.out; have := HK3.out; first | omega | exact Nat.le_refl _⟩, ⟨by (with_reducible repeat (first | apply Kd.R_alloc | apply Kd.R_drewN | apply Kd.R_drew)); exact HO_4.out⟩, ⟨by (with_reducible repeat (first | apply Kd.R_alloc | apply Kd.R_drewN | apply Kd.R_drew)); exact HO_5.out⟩, ⟨by (with_reducible repeat (first | refine blk_drewN ?_ _ | refine blk_drew ?_ | refine blk_alloc ?_ _)); exact BK455.out⟩, ⟨by repeat (first | (with_reducible first | exact HB.out | apply below_alloc | apply pw_below_drewN | apply below_drew1 | refine below_set ?_ GE455.out) | exact HB.out)⟩⟩
               ·rw [if_neg c60] at H
                have c60b0 : decide ((rd x4_3 x10_3) < 1) = false := decide_eq_false c60
                clear c60
                by_cases c61 : (rd x4_3 x10_3) > 3
                ·rw [if_pos c61] at H
                 have c61b0 : decide (3 < (rd x4_3 x10_3)) = true := decide_eq_true c61
                 clear c61
                 have H' := Aside0.mk H
                 clear H
                 have p476 : 0 ≤ (x10_3 : Int) := oda
                 have q476 : x10_3 < (x4_3.length : Int) := oda
                 obtain ⟨ad476, e476, hx476_0⟩ := Kd.at_int (Kd.R_reads' HO_4.out).2.2 x10_3 p476 q476
                 cases e476
                 replace p476 := eq_true p476
                 replace q476 := eq_true q476
                 have p477 : 0 ≤ (x10_3 : Int) := oda
                 have q477 : x10_3 < (x4_3.length : Int) := oda
                 obtain ⟨ad477, e477, hx477_0⟩ := Kd.at_int (Kd.R_reads' HO_4.out).2.2 x10_3 p477 q477
                 obtain rfl : ad476 = ad477 := (by injection e477)
                 replace p477 := eq_true p477
                 replace q477 := eq_true q477
                 go_wp2
                 go_meet
                 case rel => exact ⟨_, (true), (by first | rfl | (simp; done) | (simp [*]; done)), H', ⟨by have := HJ1.out; have := HK2.out; have := HK3.out; first | omega | exact Nat.le_refl _⟩, ⟨by (with_reducible repeat (first | apply Kd.R_alloc | apply Kd.R_drewN | apply Kd.R_drew)); exact HO_4.out⟩, ⟨by (with_reducible repeat (first | apply Kd.R_alloc | apply Kd.R_drewN | apply Kd.R_drew)); exact HO_5.out⟩, ⟨by (with_reducible repeat (first | refine blk_drewN ?_ _ | refine blk_drew ?_ | refine blk_alloc ?_ _)); exact BK455.out⟩, ⟨by repeat (first | (with_reducible first | exact HB.out | apply below_alloc | apply pw_below_drewN | apply below_drew1 | refine below_set ?_ GE455.out) | exact HB.out)⟩⟩
                ·rw [if_neg c61] at H
                 have c61b0 : decide (3 < (rd x4_3 x10_3)) = false := decide_eq_false c61
                 clear c61
                 by_cases c62 : x10_3 < (x5_2.length : Int)
                 ·rw [if_pos c62] at H
                  have c62b0 : decide (x10_3 < (x5_2.length : Int)) = true := decide_eq_true c62
                  clear c62
                  obtain ⟨bq63, hbq63⟩ : ∃ b_ : Bool, b_ = (rdOf false x5_2 x10_3) := ⟨_, rfl⟩
                  replace H : (if bq63 = true then (spec_l02Degrees.j5 k3 x4_3 x5_2 x10_3 (decide ((rd x4_3 x10_3) > 1))) else (spec_l02Degrees.j5 k3 x4_3 x5_2 x10_3 false)) = some (r1, r2) := by rw [← hbq63] at H; exact H
                  have Nbq63 := Aside0.mk hbq63
                  clear hbq63
                  by_cases c64 : bq63 = true
                  ·subst c64
                   have H1 : (spec_l02Degrees.j5 k3 x4_3 x5_2 x10_3 (decide ((rd x4_3 x10_3) > 1))) = some (r1, r2) := by rw [if_pos rfl] at H; exact H
                   clear H
                   have H := H1
                   clear H1
                   have H' := Aside0.mk H
                   clear H
                   have p476 : 0 ≤ (x10_3 : Int) := oda
                   have q476 : x10_3 < (x4_3.length : Int) := oda
                   obtain ⟨ad476, e476, hx476_0⟩ := Kd.at_int (Kd.R_reads' HO_4.out).2.2 x10_3 p476 q476
                   cases e476
                   replace p476 := eq_true p476
                   replace q476 := eq_true q476
                   have p477 : 0 ≤ (x10_3 : Int) := oda
                   have q477 : x10_3 < (x4_3.length : Int) := oda
                   obtain ⟨ad477, e477, hx477_0⟩ := Kd.at_int (Kd.R_reads' HO_4.out).2.2 x10_3 p477 q477
                   obtain rfl : ad476 = ad477 := (by injection e477)
                   replace p477 := eq_true p477
                   replace q477 := eq_true q477
                   obtain ⟨Ao65, co65, eo65⟩ := Kd.R_slice HO_5.out
                   subst eo65
                   have p478 : 0 ≤ (x10_3 : Int) := oda
                   have q478 : x10_3 < (x5_2.length : Int) := oda
                   obtain ⟨ad478, e478, hx478_0⟩ := Kd.at_bool (Kd.R_reads' HO_5.out).2.2 x10_3 p478 q478
                   (try rw [← Nbq63.out] at hx478_0)
                   cases e478
                   replace p478 := eq_true p478
                   replace q478 := eq_true q478
                   have p479 : 0 ≤ (x10_3 : Int) := oda
                   have q479 : x10_3 < (x4_3.length : Int) := oda
                   obtain ⟨ad479, e479, hx479_0⟩ := Kd.at_int (Kd.R_reads' HO_4.out).2.2 x10_3 p479 q479
                   obtain rfl : ad476 = ad479 := (by injection e479)
                   replace p479 := eq_true p479
                   replace q479 := eq_true q479
                   go_wp2
                   go_meet
                   case rel => exact ⟨_, (decide ((rd x4_3 x10_3) > 1)), (by first | rfl | (simp; done) | (simp [*]; done)), H', ⟨by have := HJ1.out; have := HK2.out; have := HK3.out; first | omega | exact Nat.le_refl _⟩, ⟨by (with_reducible repeat (first | apply Kd.R_alloc | apply Kd.R_drewN | apply Kd.R_drew)); exact HO_4.out⟩, ⟨by (with_reducible repeat (first | apply Kd.R_alloc | apply Kd.R_drewN | apply Kd.R_drew)); exact HO_5.out⟩, ⟨by (with_reducible repeat (first | refine blk_drewN ?_ _ | refine blk_drew ?_ | refine blk_alloc ?_ _)); exact BK455.out⟩, ⟨by repeat (first | (with_reducible first | exact HB.out | apply below_alloc | apply pw_below_drewN | apply below_drew1 | refine below_set ?_ GE455.out) | exact HB.out)⟩⟩
                  ·replace c64 := Bool.eq_false_iff.mpr c64
                   subst c64
                   have H1 : (spec_l02Degrees.j5 k3 x4_3 x5_2 x10_3 false) = some (r1, r2) := by rw [if_neg (show ¬ (false = true) by decide)] at H; exact H
                   clear H
                   have H := H1
                   clear H1
                   have H' := Aside0.mk H
                   clear H
                   have p476 : 0 ≤ (x10_3 : Int) := oda
                   have q476 : x10_3 < (x4_3.length : Int) := oda
                   obtain ⟨ad476, e476, hx476_0⟩ := Kd.at_int (Kd.R_reads' HO_4.out).2.2 x10_3 p476 q476
                   cases e476
                   replace p476 := eq_true p476
                   replace q476 := eq_true q476
                   have p477 : 0 ≤ (x10_3 : Int) := oda
                   have q477 : x10_3 < (x4_3.length : Int) := oda
                   obtain ⟨ad477, e477, hx477_0⟩ := Kd.at_int (Kd.R_reads' HO_4.out).2.2 x10_3 p477 q477
                   obtain rfl : ad476 = ad477 := (by injection e477)
                   replace p477 := eq_true p477
                   replace q477 := eq_true q477
                   obtain ⟨Ao66, co66, eo66⟩ := Kd.R_slice HO_5.out
                   subst eo66
                   have p478 : 0 ≤ (x10_3 : Int) := oda
                   have q478 : x10_3 < (x5_2.length : Int) := oda
                   obtain ⟨ad478, e478, hx478_0⟩ := Kd.at_bool (Kd.R_reads' HO_5.out).2.2 x10_3 p478 q478
                   (try rw [← Nbq63.out] at hx478_0)
                   cases e478
                   replace p478 := eq_true p478
                   replace q478 := eq_true q478
                   go_wp2
                   go_meet
                   case rel => exact ⟨_, (false), (by first | rfl | (simp; done) | (simp [*]; done)), H', ⟨by have := HJ1.out; have := HK2.out; have := HK3.out; first | omega | exact Nat.le_refl _⟩, ⟨by (with_reducible repeat (first | apply Kd.R_alloc | apply Kd.R_drewN | apply Kd.R_drew)); exact HO_4.out⟩, ⟨by (with_reducible repeat (first | apply Kd.R_alloc | apply Kd.R_drewN | apply Kd.R_drew)); exact HO_5.out⟩, ⟨by (with_reducible repeat (first | refine blk_drewN ?_ _ | refine blk_drew ?_ | refine blk_alloc ?_ _)); exact BK455.out⟩, ⟨by repeat (first | (with_reducible first | exact HB.out | apply below_alloc | apply pw_below_drewN | apply below_drew1 | refine below_set ?_ GE455.out) | exact HB.out)⟩⟩
                 ·rw [if_neg c62] at H
                  exact absurd H (by simp)
              ·rw [if_neg c59] at H
               exact absurd H (by simp)
             case rest =>
              clear HC57
              (try clear c1); (try clear c2); (try clear p2); (try clear c3); (try clear p3); (try clear q3); (try clear hx3); (try clear hf3); (try clear c4); (try clear p4); (try clear q4); (try clear hx4); (try clear hf4); (try clear c5); (try clear c6); (try clear p6); (try clear q6); (try clear c18); (try clear c18b0); (try clear c20); (try clear c21); (try clear c22); (try clear c22b0); (try clear c23); (try clear c27); (try clear c27b0); (try clear c28); (try clear c30); (try clear c31); (try clear c32); (try clear p33); (try clear q33); (try clear hx33); (try clear hf33); (try clear c34); (try clear q35); (try clear c36); (try clear c41); (try clear p45); (try clear q45); (try clear hx45); (try clear hf45); (try clear c46); (try clear p46); (try clear q46); (try clear hx46); (try clear p47); (try clear q47); (try clear hx47); (try clear c56); (try clear c56b0); (try clear c59); (try clear c59b0); (try clear c60); (try clear c60b0); (try clear c61); (try clear c61b0); (try clear c62); (try clear c62b0); (try clear q63); (try clear c64); (try clear p64); (try clear hcz54_0); (try clear hcz54_1); (try clear hcz55_0); (try clear hcz55_1); (try clear hfz54_0); (try clear hfz54_1); (try clear hfz55_0); (try clear hfz55_1); (try clear hx33_0); (try clear hx45_0); (try clear hx463_0); (try clear hx466_0); (try clear hx468_0); (try clear hx469_0); (try clear hx471_0); (try clear hx472_0); (try clear hx473_0); (try clear hx476_0); (try clear hx477_0); (try clear hx478_0); (try clear hx479_0); (try clear p2); (try clear p3); (try clear p33); (try clear p4); (try clear p45); (try clear p46); (try clear p463); (try clear p466); (try clear p468); (try clear p469); (try clear p47); (try clear p471); (try clear p472); (try clear p473); (try clear p476); (try clear p477); (try clear p478); (try clear p479); (try clear p6); (try clear q3); (try clear q33); (try clear q35); (try clear q4); (try clear q45); (try clear q46); (try clear q463); (try clear q466); (try clear q468); (try clear q469)
              (try clear q47); (try clear q471); (try clear q472); (try clear q473); (try clear q476); (try clear q477); (try clear q478); (try clear q479)
              obtain ⟨kq, x127_56, rfl, HA, HJ56, HO_4, HO_5, BK455, HB⟩ := hcut
              cases kq with
              | zero => exact absurd HA.out (by simp [spec_l02Degrees.j5])
              | succ kj56 =>
               have H := HA.out
               clear HA
               simp only [spec_l02Degrees.j5] at H
               by_cases c67 : x127_56 = true
               ·subst c67
                have H1 : (some (([] : List Int), false)) = some (r1, r2) := by rw [if_pos rfl] at H; exact H
                clear H
                have H := H1
                clear H1
                simp only [Option.some.injEq, Prod.mk.injEq] at H
                obtain ⟨rfl, rfl⟩ := H
                go_wp2
                go_ret2
                exact ⟨_, by first | rfl | (simp [errW_none, errW_some] <;> rfl) | (simp [*, errW_none, errW_some] <;> rfl), by first | exact Kd.R_nil _ _ _ _ _ | exact Kd.N_nil _ _ _ _ _ | exact Kd.V_nil _ _ _ _ _ | exact Kd.Q_nil _ _ _ _ _ | exact Kd.S_nil _ _ _ _ _, by repeat (first | (with_reducible first | exact HB.out | apply below_alloc | apply pw_below_drewN | apply below_drew1 | refine below_set ?_ GE455.out) | exact HB.out)⟩
               ·replace c67 := Bool.eq_false_iff.mpr c67
                subst c67
                have H1 : (if 0 ≤ x10_3 then (if x10_3 < (x5_2.length : Int) then (if rdOf false x5_2 x10_3 = true then (if x10_3 < (x4_3.length : Int) then (spec_l02Degrees.l3 kj56 (x4_3.set (x10_3 : Int).toNat 0) x5_2 (wrap64 (x10_3 + 1))) else (none)) else (spec_l02Degrees.l3 kj56 x4_3 x5_2 (wrap64 (x10_3 + 1)))) else (none)) else (none)) = some (r1, r2) := by rw [if_neg (show ¬ (false = true) by decide)] at H; exact H
                clear H
                have H := H1
                clear H1
                by_cases c68 : 0 ≤ x10_3
                ·rw [if_pos c68] at H
                 have c68b0 : decide (0 ≤ x10_3) = true := decide_eq_true c68
                 clear c68
                 by_cases c69 : x10_3 < (x5_2.length : Int)
                 ·rw [if_pos c69] at H
                  have c69b0 : decide (x10_3 < (x5_2.length : Int)) = true := decide_eq_true c69
                  clear c69
                  obtain ⟨bq70, hbq70⟩ : ∃ b_ : Bool, b_ = (rdOf false x5_2 x10_3) := ⟨_, rfl⟩
                  replace H : (if bq70 = true then (if x10_3 < (x4_3.length : Int) then (spec_l02Degrees.l3 kj56 (x4_3.set (x10_3 : Int).toNat 0) x5_2 (wrap64 (x10_3 + 1))) else (none)) else (spec_l02Degrees.l3 kj56 x4_3 x5_2 (wrap64 (x10_3 + 1)))) = some (r1, r2) := by rw [← hbq70] at H; exact H
                  have Nbq70 := Aside0.mk hbq70
                  clear hbq70
                  by_cases c71 : bq70 = true
                  ·subst c71
                   have H1 : (if x10_3 < (x4_3.length : Int) then (spec_l02Degrees.l3 kj56 (x4_3.set (x10_3 : Int).toNat 0) x5_2 (wrap64 (x10_3 + 1))) else (none)) = some (r1, r2) := by rw [if_pos rfl] at H; exact H
                   clear H
                   have H := H1
                   clear H1
                   by_cases c72 : x10_3 < (x4_3.length : Int)
                   ·rw [if_pos c72] at H
                    have c72b0 : decide (x10_3 < (x4_3.length : Int)) = true := decide_eq_true c72
                    clear c72
                    obtain ⟨y481, hy481⟩ : ∃ y_ : List Int, y_ = (x4_3.set (x10_3 : Int).toNat 0) := ⟨_, rfl⟩
                    replace H : (spec_l02Degrees.l3 kj56 y481 x5_2 (wrap64 (x10_3 + 1))) = some (r1, r2) := by first | (rw [hy481]; with_reducible exact H) | (have H2_ := (Option.bind_some _ _).symm.trans H; rw [hy481]; with_reducible exact H2_) | (have H2_ := (Option.bind_some _ _).symm.trans H; with_reducible exact H2_) | with_reducible exact H | (rw [hy481]; exact H) | exact H
                    have Ny481 := Aside0.mk hy481
                    clear hy481
                    have H' := Aside0.mk H
                    clear H
                    obtain ⟨Ao74, co74, eo74⟩ := Kd.R_slice HO_5.out
                    subst eo74
                    have p480 : 0 ≤ (x10_3 : Int) := oda
                    have q480 : x10_3 < (x5_2.length : Int) := oda
                    obtain ⟨ad480, e480, hx480_0⟩ := Kd.at_bool (Kd.R_reads' HO_5.out).2.2 x10_3 p480 q480
                    (try rw [← Nbq70.out] at hx480_0)
                    cases e480
                    replace p480 := eq_true p480
                    replace q480 := eq_true q480
                    have p73 : 0 ≤ (x10_3 : Int) := oda
                    have q73 : (x10_3 : Int) < ((x4_3.length : Int) : Int) := oda
                    obtain ⟨go73, co73, eo73, gb73, gl73, cl73, HG73⟩ := Kd.R_form HO_4.out (by omega)
                    (first | cases eo73 | (injection eo73 with ea_ en_ ec_; (first | subst ea_ | (injection ea_ with ea_; subst ea_)); subst ec_; clear en_))
                    have GB73 := Aside0.mk gb73
                    have GG73 := Aside0.mk HG73
                    clear gb73 gl73 HG73
                    obtain ⟨hx73_0, hf73_0⟩ := Kd.R_celln 0 HO_4.out (x10_3 : Int) p73 q73
                    replace p73 := eq_true p73
                    replace q73 := eq_true q73
                    have HP75 := Kd.R_putg HO_4.out (x10_3 : Int) 0
                    go_wp2_with (first | ((with_reducible refine gate_store (t := 2) (p := 134) rfl ?_); refine store_event (t := 2) (p := 134) (v := ?vo_w76) (w1 := (wc.setCell ⟨go73, (x10_3 : Int).toNat, none⟩ (.int .i64 0))) ?hg ?ho ?hn ?hr ?_; (case ho => rfl); (case hg => rfl); (case hn => rfl); (case hr => first | (go_simp; done) | (go_simp; rfl)); intro w76 hw; have hg : wc.grownBy w76 (some go73) := (by rw [hw]; exact HP75.2); have hp_ : Kd.R (Kd.int .i64) 2 w76 w.heap.size (fun _ => True) (.slice (some ⟨go73, 0, none⟩) x4_3.length co58) y481 := (by rw [hw, Ny481.out]; exact HP75.1); clear HP75; have n0_ := Aside0.mk (hp_); have n1_ := Aside0.mk (Kd.R_over' (v := (.slice (some ⟨go73, 0, none⟩) x4_3.length co58)) (by (with_reducible repeat (first | apply Kd.R_alloc | apply Kd.R_drewN | apply Kd.R_drew)); exact HO_5.out) (Kd.R_typed HO_4.out) (by decide) hg); have n2_ := Aside0.mk (blk_grown (g := gb455) (o := .cells #[.int .i64 a0_0, .slice A0_1 l0_1.length c0_1] 43 (0, 0)) (by (with_reducible repeat (first | refine blk_drewN ?_ _ | refine blk_drew ?_ | refine blk_alloc ?_ _)); exact BK455.out) hg (Kd.R_ne HO_4.out BK455.out (by decide))); have n3_ := Aside0.mk ((by rw [hw]; exact below_set (HB.out) GB73.out : Below w.heap.size w w76)); clear HO_4; clear HO_5; clear BK455; clear HB; have HO_4 := n0_; have HO_5 := n1_; have BK455 := n2_; have HB := n3_; clear n0_ n1_ n2_ n3_; clear hg hw hp_))
                    go_roundg kj56
                    case measure => have := HJ1.out; have := HK2.out; have := HK3.out; have := HJ56.out; omega
                    case rel => exact ⟨(y481), (wrap64 (x10_3 + 1)), (by first | rfl | (simp; done) | (simp [*]; done)), H', ⟨by have := HJ1.out; have := HK2.out; have := HK3.out; have := HJ56.out; omega⟩, ⟨by (with_reducible repeat (first | apply Kd.R_alloc | apply Kd.R_drewN | apply Kd.R_drew)); exact HO_4.out⟩, ⟨by (with_reducible repeat (first | apply Kd.R_alloc | apply Kd.R_drewN | apply Kd.R_drew)); exact HO_5.out⟩, ⟨by (with_reducible repeat (first | refine blk_drewN ?_ _ | refine blk_drew ?_ | refine blk_alloc ?_ _)); exact BK455.out⟩, ⟨by repeat (first | (with_reducible first | exact HB.out | apply below_alloc | apply pw_below_drewN | apply below_drew1 | refine below_set ?_ GE455.out) | exact HB.out)⟩⟩
                   ·rw [if_neg c72] at H
                    exact absurd H (by simp)
                  ·replace c71 := Bool.eq_false_iff.mpr c71
                   subst c71
                   have H1 : (spec_l02Degrees.l3 kj56 x4_3 x5_2 (wrap64 (x10_3 + 1))) = some (r1, r2) := by rw [if_neg (show ¬ (false = true) by decide)] at H; exact H
                   clear H
                   have H := H1
                   clear H1
                   have H' := Aside0.mk H
                   clear H
                   obtain ⟨Ao77, co77, eo77⟩ := Kd.R_slice HO_5.out
                   subst eo77
                   have p480 : 0 ≤ (x10_3 : Int) := oda
                   have q480 : x10_3 < (x5_2.length : Int) := oda
                   obtain ⟨ad480, e480, hx480_0⟩ := Kd.at_bool (Kd.R_reads' HO_5.out).2.2 x10_3 p480 q480
                   (try rw [← Nbq70.out] at hx480_0)
                   cases e480
                   replace p480 := eq_true p480
                   replace q480 := eq_true q480
                   go_wp2
                   go_roundg kj56
                   case measure => have := HJ1.out; have := HK2.out; have := HK3.out; have := HJ56.out; omega
                   case rel => exact ⟨(x4_3), (wrap64 (x10_3 + 1)), (by first | rfl | (simp; done) | (simp [*]; done)), H', ⟨by have := HJ1.out; have := HK2.out; have := HK3.out; have := HJ56.out; omega⟩, ⟨by (with_reducible repeat (first | apply Kd.R_alloc | apply Kd.R_drewN | apply Kd.R_drew)); exact HO_4.out⟩, ⟨by (with_reducible repeat (first | apply Kd.R_alloc | apply Kd.R_drewN | apply Kd.R_drew)); exact HO_5.out⟩, ⟨by (with_reducible repeat (first | refine blk_drewN ?_ _ | refine blk_drew ?_ | refine blk_alloc ?_ _)); exact BK455.out⟩, ⟨by repeat (first | (with_reducible first | exact HB.out | apply below_alloc | apply pw_below_drewN | apply below_drew1 | refine below_set ?_ GE455.out) | exact HB.out)⟩⟩
                 ·rw [if_neg c69] at H
                  exact absurd H (by simp)
                ·rw [if_neg c68] at H
                 exact absurd H (by simp)
            ·rw [if_neg c56] at H
             have c56b0 : decide (x10_3 < (x4_3.length : Int)) = false := decide_eq_false c56
             clear c56
             simp only [Option.some.injEq, Prod.mk.injEq] at H
             obtain ⟨rfl, rfl⟩ := H
             obtain ⟨Ao78, co78, eo78⟩ := Kd.R_slice HO_4.out
             subst eo78
             go_wp2
             go_ret2
             exact ⟨_, by first | rfl | (simp [errW_none, errW_some] <;> rfl) | (simp [*, errW_none, errW_some] <;> rfl), by (with_reducible repeat (first | apply Kd.R_alloc | apply Kd.R_drewN | apply Kd.R_drew)); exact HO_4.out, by repeat (first | (with_reducible first | exact HB.out | apply below_alloc | apply pw_below_drewN | apply below_drew1 | refine below_set ?_ GE455.out) | exact HB.out)⟩
      ·rw [if_neg c11] at H
       exact absurd H (by simp)
     ·rw [if_neg c10] at H
      exact absurd H (by simp)
    ·rw [if_neg c9] at H
     exact absurd H (by simp)
/-! ### spec_l02Is: function 67 -/
def spec_l02Is.f (k : Nat) (a0_0 : Int) (l0_1 : List (List (List Int))) : Option (Bool) := (spec_l02Degrees.f k a0_0 l0_1).bind fun bt483 => (some bt483.2)
theorem spec_l02Is.mono : ∀ a0 a1 k, LeO (spec_l02Is.f k a0 a1) (spec_l02Is.f (k + 1) a0 a1) := by
 intro a0 a1 k
 unfold spec_l02Is.f
 repeat' first
   | (with_reducible exact spec_l02Degrees.mono _ _ _)
   | (with_reducible exact LeO.refl _)
   | (with_reducible exact LeO.none _)
   | (with_reducible refine LeO.ite ?_ ?_)
   | (with_reducible refine LeO.bind ?_ (fun _ => ?_))
   | exact spec_l02Degrees.mono _ _ _
   | exact LeO.none _
   | refine LeO.ite ?_ ?_
   | refine LeO.bind ?_ (fun _ => ?_)
set_option maxHeartbeats 8000000 in
set_option maxRecDepth 100000 in
theorem spec_l02Is.calls (k : Nat) (a0_0 : Int) (A0_1 : Option Addr) (c0_1 : Nat) (l0_1 : List (List (List Int))) (r : Bool) (w : World) (hr0_1 : Kd.C (Kd.slice 22 (Kd.slice 2 (Kd.int .i64))) w A0_1 l0_1.length l0_1) (hc0_1 : l0_1.length ≤ c0_1) (h : spec_l02Is.f k a0_0 l0_1 = some r) :
  Calls Try.prog 67 #[.agg #[.int .i64 a0_0, .slice A0_1 l0_1.length c0_1]] w fun e w' => e = .returned (.bool r) ∧ Below w.heap.size w w' := by
 have hu43 := Try.underlying43
 have HR0_1 := Aside0.mk hr0_1
 have HC0_1 := Aside0.mk hc0_1
 clear hr0_1 hc0_1
 have HB := Aside0.mk (Below.refl w.heap.size w)
 have H : ((spec_l02Degrees.f k a0_0 l0_1).bind fun bt483 => (some bt483.2)) = some r := h
 clear h
 replace H := Option.bind_eq_some_iff.mp H
 obtain ⟨⟨t483, t486⟩, A20, H⟩ := H
 replace H : (some t486) = some r := H
 have A2 := Aside0.mk A20
 clear A20
 obtain rfl := Option.some.inj H
 go_enter Try.func67, Try.ntmps67
 go_wp2_with (first | ((with_reducible refine gate_dst (N := 1) rfl ?_); refine box_event ?hg (N := 1) ?hd (cs := #[.int .i64 a0_0, .slice A0_1 l0_1.length c0_1]) (t := 43) ?hr ?_; (case hd => rfl); (case hg => rfl); (case hr => first | (go_simp; done) | (go_simp; rfl)); intro gb482 hg w3 hbox hb; have n0_ := Aside0.mk (below_step hb_ hb); have n1_ := Aside0.mk (hbox); have n2_ := Aside0.mk ((by rw [hg]; exact (below_size hb_) : w.heap.size ≤ gb482)); have n3_ := Aside0.mk ((by rw [hg]; exact (below_size hb_) : w.heap.size ≤ gb482)); clear HB; have HB := n0_; have BK482 := n1_; have GW482 := n2_; have GE482 := n3_; clear n0_ n1_ n2_ n3_; clear hb hbox hg; have hcz4_0 : w3.cell? ⟨gb482, 0, none⟩ = some (.int .i64 a0_0) := (blk_cell BK482.out 0).trans rfl; have hcz4_1 : w3.cell? ⟨gb482, 1, none⟩ = some (.slice A0_1 l0_1.length c0_1) := (blk_cell BK482.out 1).trans rfl; have hfz4_0 := blk_frozen BK482.out 0; have hfz4_1 := blk_frozen BK482.out 1) | ((with_reducible refine gate_callee (f := 74) rfl ?_); refine goesA_ (some 7) rfl rfl Try.func74 (by kernel_rfl) rfl #[.agg #[.int .i64 a0_0, .slice A0_1 l0_1.length c0_1]] rfl ?_; (with_reducible refine (spec_l02Degrees.calls k a0_0 _ _ l0_1 t483 t486 _ ?side1 ?side2 A2.out).mono ?_); (case side1 => repeat (first | exact (Kd.C_below HR0_1.out HB.out) | (with_reducible refine Kd.C_alloc ?_ _) | (with_reducible refine Kd.C_drewN ?_ _) | (with_reducible refine Kd.C_drew ?_))); (case side2 => exact HC0_1.out); rintro e w5 ⟨v484, rfl, ho0, hb⟩; refine ⟨_, rfl, ?_⟩; have n0_ := Aside0.mk (Kd.R_lower ho0 (below_size (by repeat (first | (with_reducible first | exact HB.out | apply below_alloc | apply pw_below_drewN | apply below_drew1 | refine below_set ?_ GE482.out) | exact HB.out)))); have n1_ := Aside0.mk (blk_below (g := gb482) (o := .cells #[.int .i64 a0_0, .slice A0_1 l0_1.length c0_1] 43 (0, 0)) (by (with_reducible repeat (first | refine blk_drewN ?_ _ | refine blk_drew ?_ | refine blk_alloc ?_ _)); exact BK482.out) hb); have n2_ := Aside0.mk (below_step (by repeat (first | (with_reducible first | exact HB.out | apply below_alloc | apply pw_below_drewN | apply below_drew1 | refine below_set ?_ GE482.out) | exact HB.out)) hb); clear BK482; clear HB; have HO485 := n0_; have BK482 := n1_; have HB := n2_; clear n0_ n1_ n2_; (try clear hb); (try clear hb2); (try clear hk); (try clear hi); (try clear ho0)))
 go_ret
 exact ⟨by first | rfl | (simp [errW_none, errW_some] <;> rfl) | (simp [*, errW_none, errW_some] <;> rfl), by repeat (first | (with_reducible first | exact HB.out | apply below_alloc | apply pw_below_drewN | apply below_drew1 | refine below_set ?_ GE482.out) | exact HB.out)⟩
/-! ### spec_l04Ascends: function 96 -/
def spec_l04Ascends.l0 : Nat → List Int → Int → Int → Option (Bool)
 | 0, _, _, _ => none
 | k + 1, x0, x1, x5 => if x5 < (x0.length : Int) then (if 0 ≤ x5 then ((spec_l01In.f (rd x0 x5) x1 30).bind fun t488 => (if t488 = true then (if x5 > 0 then (if 0 ≤ (wrap64 (x5 - 1)) then (if (wrap64 (x5 - 1)) < (x0.length : Int) then (if (rd x0 (wrap64 (x5 - 1))) > (rd x0 x5) then (some false) else (spec_l04Ascends.l0 k x0 x1 (wrap64 (x5 + 1)))) else (none)) else (none)) else (spec_l04Ascends.l0 k x0 x1 (wrap64 (x5 + 1)))) else (some false))) else (none)) else (some true)
def spec_l04Ascends.f (k : Nat) (l0 : List Int) (a1 : Int) : Option (Bool) := spec_l04Ascends.l0 k l0 a1 0
theorem spec_l04Ascends.mono_l : ∀ k, (∀ y0 y1 y2, LeO (spec_l04Ascends.l0 k y0 y1 y2) (spec_l04Ascends.l0 (k + 1) y0 y1 y2))
 | 0 => fun _ _ _ r h => by simp [spec_l04Ascends.l0] at h
 | k + 1 => by
  have ih0 := spec_l04Ascends.mono_l k
  ·intro y0 y1 y2
   unfold spec_l04Ascends.l0
   repeat' first
   | (with_reducible exact ih0 _ _ _)
   | (with_reducible exact LeO.refl _)
   | (with_reducible exact LeO.none _)
   | (with_reducible refine LeO.ite ?_ ?_)
   | (with_reducible refine LeO.bind ?_ (fun _ => ?_))
   | exact ih0 _ _ _
   | exact LeO.none _
   | refine LeO.ite ?_ ?_
   | refine LeO.bind ?_ (fun _ => ?_)
theorem spec_l04Ascends.mono : ∀ a0 a1 k, LeO (spec_l04Ascends.f k a0 a1) (spec_l04Ascends.f (k + 1) a0 a1) := by
 intro a0 a1 k
 have ih0 := spec_l04Ascends.mono_l k
 unfold spec_l04Ascends.f
 repeat' first
   | (with_reducible exact ih0 _ _ _)
   | (with_reducible exact LeO.refl _)
   | (with_reducible exact LeO.none _)
   | (with_reducible refine LeO.ite ?_ ?_)
   | (with_reducible refine LeO.bind ?_ (fun _ => ?_))
   | exact ih0 _ _ _
   | exact LeO.none _
   | refine LeO.ite ?_ ?_
   | refine LeO.bind ?_ (fun _ => ?_)
set_option maxHeartbeats 8000000 in
set_option maxRecDepth 100000 in
theorem spec_l04Ascends.calls (k : Nat) (A0 : Option Addr) (c0 : Nat) (l0 : List Int) (a1 : Int) (r : Bool) (w : World) (hr0 : Kd.C (Kd.int .i64) w A0 l0.length l0) (hc0 : l0.length ≤ c0) (h : spec_l04Ascends.f k l0 a1 = some r) :
  Calls Try.prog 96 #[.slice A0 l0.length c0, .int .i64 a1] w fun e w' => e = .returned (.bool r) ∧ Drawn0 w w' := by
 have HR0 := Aside0.mk hr0
 have HC0 := Aside0.mk hc0
 clear hr0 hc0
 have H : (spec_l04Ascends.l0 k l0 a1 0) = some r := h
 clear h
 have H' := Aside0.mk H
 clear H
 go_enter Try.func96, Try.ntmps96
 go_wp2
 repeat (go_quiet (fail); try go_wp2)
 go_loopg [5] k (fun kq v5 w' => ∃ (x5_1 : Int), v5 = .int .i64 x5_1 ∧ Aside0 (spec_l04Ascends.l0 kq l0 a1 x5_1 = some r) ∧ Aside0 (kq ≤ k) ∧ Drawn0 w w')
 case atStart => exact ⟨(0), (by first | rfl | (simp; done) | (simp [*]; done)), H', ⟨Nat.le_refl _⟩, by repeat (first | exact Drawn0.refl _ | apply Drawn0.step)⟩
 case round =>
  clear H'
  (try clear p2)
  obtain ⟨x5_1, rfl, HA, HK1, ⟨m1, rfl⟩⟩ := hrel
  cases gk with
  | zero => exact absurd HA.out (by simp [spec_l04Ascends.l0])
  | succ k1 =>
   have H := HA.out
   clear HA
   simp only [spec_l04Ascends.l0] at H
   by_cases c3 : x5_1 < (l0.length : Int)
   ·rw [if_pos c3] at H
    have c3b0 : decide (x5_1 < (l0.length : Int)) = true := decide_eq_true c3
    clear c3
    by_cases c4 : 0 ≤ x5_1
    ·rw [if_pos c4] at H
     have c4b0 : decide (0 ≤ x5_1) = true := decide_eq_true c4
     clear c4
     replace H := Option.bind_eq_some_iff.mp H
     obtain ⟨t488, A50, H⟩ := H
     replace H : (if t488 = true then (if x5_1 > 0 then (if 0 ≤ (wrap64 (x5_1 - 1)) then (if (wrap64 (x5_1 - 1)) < (l0.length : Int) then (if (rd l0 (wrap64 (x5_1 - 1))) > (rd l0 x5_1) then (some false) else (spec_l04Ascends.l0 k1 l0 a1 (wrap64 (x5_1 + 1)))) else (none)) else (none)) else (spec_l04Ascends.l0 k1 l0 a1 (wrap64 (x5_1 + 1)))) else (some false)) = some r := H
     have A5 := Aside0.mk A50
     clear A50
     by_cases c6 : t488 = true
     ·subst c6
      have H1 : (if x5_1 > 0 then (if 0 ≤ (wrap64 (x5_1 - 1)) then (if (wrap64 (x5_1 - 1)) < (l0.length : Int) then (if (rd l0 (wrap64 (x5_1 - 1))) > (rd l0 x5_1) then (some false) else (spec_l04Ascends.l0 k1 l0 a1 (wrap64 (x5_1 + 1)))) else (none)) else (none)) else (spec_l04Ascends.l0 k1 l0 a1 (wrap64 (x5_1 + 1)))) = some r := by rw [if_pos rfl] at H; exact H
      clear H
      have H := H1
      clear H1
      by_cases c7 : x5_1 > 0
      ·rw [if_pos c7] at H
       have c7b0 : decide (0 < x5_1) = true := decide_eq_true c7
       clear c7
       obtain ⟨ji8, hji8⟩ : ∃ j_ : Int, (wrap64 (x5_1 - 1)) = j_ := ⟨_, rfl⟩
       replace H : (if 0 ≤ (ji8) then (if (ji8) < (l0.length : Int) then (if (rd l0 (ji8)) > (rd l0 x5_1) then (some false) else (spec_l04Ascends.l0 k1 l0 a1 (wrap64 (x5_1 + 1)))) else (none)) else (none)) = some r := by first | (rw [hji8] at H; exact H) | (simp only [hji8] at H ⊢; exact H)
       (try rw [hji8] at A5)
       have hji8w : (IntKind.i64.wrap (x5_1 - 1)) = ji8 := (i64_w _).trans hji8
       by_cases c9 : 0 ≤ (ji8)
       ·rw [if_pos c9] at H
        have c9b0 : decide (0 ≤ (ji8)) = true := decide_eq_true c9
        clear c9
        by_cases c10 : (ji8) < (l0.length : Int)
        ·rw [if_pos c10] at H
         have c10b0 : decide ((ji8) < (l0.length : Int)) = true := decide_eq_true c10
         clear c10
         by_cases c11 : (rd l0 (ji8)) > (rd l0 x5_1)
         ·rw [if_pos c11] at H
          have c11b0 : decide ((rd l0 x5_1) < (rd l0 (ji8))) = true := decide_eq_true c11
          clear c11
          obtain rfl := Option.some.inj H
          have p487 : 0 ≤ (x5_1 : Int) := oda
          have q487 : x5_1 < (l0.length : Int) := oda
          obtain ⟨ad487, e487, hx487_0⟩ := Kd.at_int HR0.out x5_1 p487 q487
          cases e487
          replace p487 := eq_true p487
          replace q487 := eq_true q487
          (try (have p489 : 0 ≤ ((ji8) : Int) := oda; have q489 : (ji8) < (l0.length : Int) := oda; obtain ⟨ad489, e489, hx489_0⟩ := Kd.at_int HR0.out (ji8) p489 q489; obtain rfl : ad487 = ad489 := (by injection e489); replace p489 := eq_true p489; replace q489 := eq_true q489; have p490 : 0 ≤ (x5_1 : Int) := oda; have q490 : x5_1 < (l0.length : Int) := oda; obtain ⟨ad490, e490, hx490_0⟩ := Kd.at_int HR0.out x5_1 p490 q490; obtain rfl : ad487 = ad490 := (by injection e490); replace p490 := eq_true p490; replace q490 := eq_true q490))
          go_wp2_with (first | (go_at_call 41; (with_reducible refine (spec_l01In.calls (rd l0 x5_1) a1 30 true _ A5.out).mono ?_); rintro e w' ⟨rfl, ⟨nd, rfl⟩⟩; (try first | exact ⟨rfl, _, World.drewN_drewN _ _ _⟩ | exact ⟨rfl, _, Eq.trans (World.drewN_drewN _ _ _) (congrArg (World.drewN _) (Nat.add_assoc _ _ _))⟩); have p489 : 0 ≤ ((ji8) : Int) := oda; have q489 : (ji8) < (l0.length : Int) := oda; obtain ⟨ad489, e489, hx489_0⟩ := Kd.at_int HR0.out (ji8) p489 q489; obtain rfl : ad487 = ad489 := (by injection e489); replace p489 := eq_true p489; replace q489 := eq_true q489; have p490 : 0 ≤ (x5_1 : Int) := oda; have q490 : x5_1 < (l0.length : Int) := oda; obtain ⟨ad490, e490, hx490_0⟩ := Kd.at_int HR0.out x5_1 p490 q490; obtain rfl : ad487 = ad490 := (by injection e490); replace p490 := eq_true p490; replace q490 := eq_true q490))
          repeat (go_quiet (first | (go_at_call 41; (with_reducible refine (spec_l01In.calls (rd l0 x5_1) a1 30 true _ A5.out).mono ?_); rintro e w' ⟨rfl, ⟨nd, rfl⟩⟩; (try first | exact ⟨rfl, _, World.drewN_drewN _ _ _⟩ | exact ⟨rfl, _, Eq.trans (World.drewN_drewN _ _ _) (congrArg (World.drewN _) (Nat.add_assoc _ _ _))⟩))); try go_wp2_with (first | (go_at_call 41; (with_reducible refine (spec_l01In.calls (rd l0 x5_1) a1 30 true _ A5.out).mono ?_); rintro e w' ⟨rfl, ⟨nd, rfl⟩⟩; (try first | exact ⟨rfl, _, World.drewN_drewN _ _ _⟩ | exact ⟨rfl, _, Eq.trans (World.drewN_drewN _ _ _) (congrArg (World.drewN _) (Nat.add_assoc _ _ _))⟩); have p489 : 0 ≤ ((ji8) : Int) := oda; have q489 : (ji8) < (l0.length : Int) := oda; obtain ⟨ad489, e489, hx489_0⟩ := Kd.at_int HR0.out (ji8) p489 q489; obtain rfl : ad487 = ad489 := (by injection e489); replace p489 := eq_true p489; replace q489 := eq_true q489; have p490 : 0 ≤ (x5_1 : Int) := oda; have q490 : x5_1 < (l0.length : Int) := oda; obtain ⟨ad490, e490, hx490_0⟩ := Kd.at_int HR0.out x5_1 p490 q490; obtain rfl : ad487 = ad490 := (by injection e490); replace p490 := eq_true p490; replace q490 := eq_true q490)))
          go_ret
          exact ⟨by first | rfl | (simp; done) | (simp only [← hji8] <;> (first | rfl | simp)) | (simp [*]; done), by repeat (first | exact Drawn0.refl _ | apply Drawn0.step)⟩
         ·rw [if_neg c11] at H
          have c11b0 : decide ((rd l0 x5_1) < (rd l0 (ji8))) = false := decide_eq_false c11
          clear c11
          have H' := Aside0.mk H
          clear H
          have p487 : 0 ≤ (x5_1 : Int) := oda
          have q487 : x5_1 < (l0.length : Int) := oda
          obtain ⟨ad487, e487, hx487_0⟩ := Kd.at_int HR0.out x5_1 p487 q487
          cases e487
          replace p487 := eq_true p487
          replace q487 := eq_true q487
          (try (have p489 : 0 ≤ ((ji8) : Int) := oda; have q489 : (ji8) < (l0.length : Int) := oda; obtain ⟨ad489, e489, hx489_0⟩ := Kd.at_int HR0.out (ji8) p489 q489; obtain rfl : ad487 = ad489 := (by injection e489); replace p489 := eq_true p489; replace q489 := eq_true q489; have p490 : 0 ≤ (x5_1 : Int) := oda; have q490 : x5_1 < (l0.length : Int) := oda; obtain ⟨ad490, e490, hx490_0⟩ := Kd.at_int HR0.out x5_1 p490 q490; obtain rfl : ad487 = ad490 := (by injection e490); replace p490 := eq_true p490; replace q490 := eq_true q490))
          go_wp2_with (first | (go_at_call 41; (with_reducible refine (spec_l01In.calls (rd l0 x5_1) a1 30 true _ A5.out).mono ?_); rintro e w' ⟨rfl, ⟨nd, rfl⟩⟩; (try first | exact ⟨rfl, _, World.drewN_drewN _ _ _⟩ | exact ⟨rfl, _, Eq.trans (World.drewN_drewN _ _ _) (congrArg (World.drewN _) (Nat.add_assoc _ _ _))⟩); have p489 : 0 ≤ ((ji8) : Int) := oda; have q489 : (ji8) < (l0.length : Int) := oda; obtain ⟨ad489, e489, hx489_0⟩ := Kd.at_int HR0.out (ji8) p489 q489; obtain rfl : ad487 = ad489 := (by injection e489); replace p489 := eq_true p489; replace q489 := eq_true q489; have p490 : 0 ≤ (x5_1 : Int) := oda; have q490 : x5_1 < (l0.length : Int) := oda; obtain ⟨ad490, e490, hx490_0⟩ := Kd.at_int HR0.out x5_1 p490 q490; obtain rfl : ad487 = ad490 := (by injection e490); replace p490 := eq_true p490; replace q490 := eq_true q490))
          repeat (go_quiet (first | (go_at_call 41; (with_reducible refine (spec_l01In.calls (rd l0 x5_1) a1 30 true _ A5.out).mono ?_); rintro e w' ⟨rfl, ⟨nd, rfl⟩⟩; (try first | exact ⟨rfl, _, World.drewN_drewN _ _ _⟩ | exact ⟨rfl, _, Eq.trans (World.drewN_drewN _ _ _) (congrArg (World.drewN _) (Nat.add_assoc _ _ _))⟩))); try go_wp2_with (first | (go_at_call 41; (with_reducible refine (spec_l01In.calls (rd l0 x5_1) a1 30 true _ A5.out).mono ?_); rintro e w' ⟨rfl, ⟨nd, rfl⟩⟩; (try first | exact ⟨rfl, _, World.drewN_drewN _ _ _⟩ | exact ⟨rfl, _, Eq.trans (World.drewN_drewN _ _ _) (congrArg (World.drewN _) (Nat.add_assoc _ _ _))⟩); have p489 : 0 ≤ ((ji8) : Int) := oda; have q489 : (ji8) < (l0.length : Int) := oda; obtain ⟨ad489, e489, hx489_0⟩ := Kd.at_int HR0.out (ji8) p489 q489; obtain rfl : ad487 = ad489 := (by injection e489); replace p489 := eq_true p489; replace q489 := eq_true q489; have p490 : 0 ≤ (x5_1 : Int) := oda; have q490 : x5_1 < (l0.length : Int) := oda; obtain ⟨ad490, e490, hx490_0⟩ := Kd.at_int HR0.out x5_1 p490 q490; obtain rfl : ad487 = ad490 := (by injection e490); replace p490 := eq_true p490; replace q490 := eq_true q490)))
          go_roundg k1
          case measure => have := HK1.out; omega
          case rel => exact ⟨(wrap64 (x5_1 + 1)), (by first | rfl | (simp; done) | (simp [*]; done)), H', ⟨by have := HK1.out; omega⟩, by repeat (first | exact Drawn0.refl _ | apply Drawn0.step)⟩
        ·rw [if_neg c10] at H
         exact absurd H (by simp)
       ·rw [if_neg c9] at H
        exact absurd H (by simp)
      ·rw [if_neg c7] at H
       have c7b0 : decide (0 < x5_1) = false := decide_eq_false c7
       clear c7
       have H' := Aside0.mk H
       clear H
       have p487 : 0 ≤ (x5_1 : Int) := oda
       have q487 : x5_1 < (l0.length : Int) := oda
       obtain ⟨ad487, e487, hx487_0⟩ := Kd.at_int HR0.out x5_1 p487 q487
       cases e487
       replace p487 := eq_true p487
       replace q487 := eq_true q487
       go_wp2_with (first | (go_at_call 41; (with_reducible refine (spec_l01In.calls (rd l0 x5_1) a1 30 true _ A5.out).mono ?_); rintro e w' ⟨rfl, ⟨nd, rfl⟩⟩; (try first | exact ⟨rfl, _, World.drewN_drewN _ _ _⟩ | exact ⟨rfl, _, Eq.trans (World.drewN_drewN _ _ _) (congrArg (World.drewN _) (Nat.add_assoc _ _ _))⟩)))
       repeat (go_quiet (first | (go_at_call 41; (with_reducible refine (spec_l01In.calls (rd l0 x5_1) a1 30 true _ A5.out).mono ?_); rintro e w' ⟨rfl, ⟨nd, rfl⟩⟩; (try first | exact ⟨rfl, _, World.drewN_drewN _ _ _⟩ | exact ⟨rfl, _, Eq.trans (World.drewN_drewN _ _ _) (congrArg (World.drewN _) (Nat.add_assoc _ _ _))⟩))); try go_wp2_with (first | (go_at_call 41; (with_reducible refine (spec_l01In.calls (rd l0 x5_1) a1 30 true _ A5.out).mono ?_); rintro e w' ⟨rfl, ⟨nd, rfl⟩⟩; (try first | exact ⟨rfl, _, World.drewN_drewN _ _ _⟩ | exact ⟨rfl, _, Eq.trans (World.drewN_drewN _ _ _) (congrArg (World.drewN _) (Nat.add_assoc _ _ _))⟩))))
       go_roundg k1
       case measure => have := HK1.out; omega
       case rel => exact ⟨(wrap64 (x5_1 + 1)), (by first | rfl | (simp; done) | (simp [*]; done)), H', ⟨by have := HK1.out; omega⟩, by repeat (first | exact Drawn0.refl _ | apply Drawn0.step)⟩
     ·replace c6 := Bool.eq_false_iff.mpr c6
      subst c6
      have H1 : (some false) = some r := by rw [if_neg (show ¬ (false = true) by decide)] at H; exact H
      clear H
      have H := H1
      clear H1
      obtain rfl := Option.some.inj H
      have p487 : 0 ≤ (x5_1 : Int) := oda
      have q487 : x5_1 < (l0.length : Int) := oda
      obtain ⟨ad487, e487, hx487_0⟩ := Kd.at_int HR0.out x5_1 p487 q487
      cases e487
      replace p487 := eq_true p487
      replace q487 := eq_true q487
      go_wp2_with (first | (go_at_call 41; (with_reducible refine (spec_l01In.calls (rd l0 x5_1) a1 30 false _ A5.out).mono ?_); rintro e w' ⟨rfl, ⟨nd, rfl⟩⟩; (try first | exact ⟨rfl, _, World.drewN_drewN _ _ _⟩ | exact ⟨rfl, _, Eq.trans (World.drewN_drewN _ _ _) (congrArg (World.drewN _) (Nat.add_assoc _ _ _))⟩)))
      repeat (go_quiet (first | (go_at_call 41; (with_reducible refine (spec_l01In.calls (rd l0 x5_1) a1 30 false _ A5.out).mono ?_); rintro e w' ⟨rfl, ⟨nd, rfl⟩⟩; (try first | exact ⟨rfl, _, World.drewN_drewN _ _ _⟩ | exact ⟨rfl, _, Eq.trans (World.drewN_drewN _ _ _) (congrArg (World.drewN _) (Nat.add_assoc _ _ _))⟩))); try go_wp2_with (first | (go_at_call 41; (with_reducible refine (spec_l01In.calls (rd l0 x5_1) a1 30 false _ A5.out).mono ?_); rintro e w' ⟨rfl, ⟨nd, rfl⟩⟩; (try first | exact ⟨rfl, _, World.drewN_drewN _ _ _⟩ | exact ⟨rfl, _, Eq.trans (World.drewN_drewN _ _ _) (congrArg (World.drewN _) (Nat.add_assoc _ _ _))⟩))))
      go_ret
      exact ⟨by first | rfl | (simp; done) | (simp [*]; done), by repeat (first | exact Drawn0.refl _ | apply Drawn0.step)⟩
    ·rw [if_neg c4] at H
     exact absurd H (by simp)
   ·rw [if_neg c3] at H
    have c3b0 : decide (x5_1 < (l0.length : Int)) = false := decide_eq_false c3
    clear c3
    obtain rfl := Option.some.inj H
    go_wp2
    repeat (go_quiet (fail); try go_wp2)
    go_ret
    exact ⟨by first | rfl | (simp; done) | (simp [*]; done), by repeat (first | exact Drawn0.refl _ | apply Drawn0.step)⟩
/-! ### spec_l04Is: function 68 -/
def spec_l04Is.f (k : Nat) (l0_0 : List Int) (l0_1 : List Int) : Option (Bool) := if (wrap64 ((l0_0.length : Int) + (l0_1.length : Int))) ≤ 8 then ((spec_l04Ascends.f k l0_0 1).bind fun t492 => (if t492 = true then ((spec_l04Ascends.f k l0_1 4).bind fun t493 => (some t493)) else (some false))) else (some false)
theorem spec_l04Is.mono : ∀ a0 a1 k, LeO (spec_l04Is.f k a0 a1) (spec_l04Is.f (k + 1) a0 a1) := by
 intro a0 a1 k
 unfold spec_l04Is.f
 repeat' first
   | (with_reducible exact spec_l04Ascends.mono _ _ _)
   | (with_reducible exact LeO.refl _)
   | (with_reducible exact LeO.none _)
   | (with_reducible refine LeO.ite ?_ ?_)
   | (with_reducible refine LeO.bind ?_ (fun _ => ?_))
   | exact spec_l04Ascends.mono _ _ _
   | exact LeO.none _
   | refine LeO.ite ?_ ?_
   | refine LeO.bind ?_ (fun _ => ?_)
set_option maxHeartbeats 8000000 in
set_option maxRecDepth 100000 in
theorem spec_l04Is.calls (k : Nat) (A0_0 : Option Addr) (c0_0 : Nat) (l0_0 : List Int) (A0_1 : Option Addr) (c0_1 : Nat) (l0_1 : List Int) (r : Bool) (w : World) (hr0_0 : Kd.C (Kd.int .i64) w A0_0 l0_0.length l0_0) (hc0_0 : l0_0.length ≤ c0_0) (hr0_1 : Kd.C (Kd.int .i64) w A0_1 l0_1.length l0_1) (hc0_1 : l0_1.length ≤ c0_1) (h : spec_l04Is.f k l0_0 l0_1 = some r) :
  Calls Try.prog 68 #[.agg #[.slice A0_0 l0_0.length c0_0, .slice A0_1 l0_1.length c0_1]] w fun e w' => e = .returned (.bool r) ∧ Below w.heap.size w w' := by
 have hu45 := Try.underlying45
 have HR0_0 := Aside0.mk hr0_0
 have HC0_0 := Aside0.mk hc0_0
 clear hr0_0 hc0_0
 have HR0_1 := Aside0.mk hr0_1
 have HC0_1 := Aside0.mk hc0_1
 clear hr0_1 hc0_1
 have HB := Aside0.mk (Below.refl w.heap.size w)
 have H : (if (wrap64 ((l0_0.length : Int) + (l0_1.length : Int))) ≤ 8 then ((spec_l04Ascends.f k l0_0 1).bind fun t492 => (if t492 = true then ((spec_l04Ascends.f k l0_1 4).bind fun t493 => (some t493)) else (some false))) else (some false)) = some r := h
 clear h
 by_cases c2 : (wrap64 ((l0_0.length : Int) + (l0_1.length : Int))) ≤ 8
 ·rw [if_pos c2] at H
  have c2b0 : decide ((wrap64 ((l0_0.length : Int) + (l0_1.length : Int))) ≤ 8) = true := decide_eq_true c2
  clear c2
  replace H := Option.bind_eq_some_iff.mp H
  obtain ⟨t492, A30, H⟩ := H
  replace H : (if t492 = true then ((spec_l04Ascends.f k l0_1 4).bind fun t493 => (some t493)) else (some false)) = some r := H
  have A3 := Aside0.mk A30
  clear A30
  by_cases c4 : t492 = true
  ·subst c4
   have H1 : ((spec_l04Ascends.f k l0_1 4).bind fun t493 => (some t493)) = some r := by rw [if_pos rfl] at H; exact H
   clear H
   have H := H1
   clear H1
   replace H := Option.bind_eq_some_iff.mp H
   obtain ⟨t493, A50, H⟩ := H
   replace H : (some t493) = some r := H
   have A5 := Aside0.mk A50
   clear A50
   obtain rfl := Option.some.inj H
   go_enter Try.func68, Try.ntmps68
   go_wp2_with (first | ((with_reducible refine gate_dst (N := 1) rfl ?_); refine box_event ?hg (N := 1) ?hd (cs := #[.slice A0_0 l0_0.length c0_0, .slice A0_1 l0_1.length c0_1]) (t := 45) ?hr ?_; (case hd => rfl); (case hg => rfl); (case hr => first | (go_simp; done) | (go_simp; rfl)); intro gb491 hg w6 hbox hb; have n0_ := Aside0.mk (below_step hb_ hb); have n1_ := Aside0.mk (hbox); have n2_ := Aside0.mk ((by rw [hg]; exact (below_size hb_) : w.heap.size ≤ gb491)); have n3_ := Aside0.mk ((by rw [hg]; exact (below_size hb_) : w.heap.size ≤ gb491)); clear HB; have HB := n0_; have BK491 := n1_; have GW491 := n2_; have GE491 := n3_; clear n0_ n1_ n2_ n3_; clear hb hbox hg; have hcz7_0 : w6.cell? ⟨gb491, 0, none⟩ = some (.slice A0_0 l0_0.length c0_0) := (blk_cell BK491.out 0).trans rfl; have hcz7_1 : w6.cell? ⟨gb491, 1, none⟩ = some (.slice A0_1 l0_1.length c0_1) := (blk_cell BK491.out 1).trans rfl; have hfz7_0 := blk_frozen BK491.out 0; have hfz7_1 := blk_frozen BK491.out 1) | (go_at_call 96; (with_reducible refine (spec_l04Ascends.calls k _ _ l0_0 1 true _ ?side1 ?side2 A3.out).mono ?_); (case side1 => repeat (first | exact (Kd.C_below HR0_0.out HB.out) | (with_reducible refine Kd.C_alloc ?_ _) | (with_reducible refine Kd.C_drewN ?_ _) | (with_reducible refine Kd.C_drew ?_))); (case side2 => exact HC0_0.out); rintro e w' ⟨rfl, ⟨nd, rfl⟩⟩) | (go_at_call 96; (with_reducible refine (spec_l04Ascends.calls k _ _ l0_1 4 t493 _ ?side1 ?side2 A5.out).mono ?_); (case side1 => repeat (first | exact (Kd.C_below HR0_1.out (by repeat (first | (with_reducible first | exact HB.out | apply below_alloc | apply pw_below_drewN | apply below_drew1 | refine below_set ?_ GE491.out) | exact HB.out))) | (with_reducible refine Kd.C_alloc ?_ _) | (with_reducible refine Kd.C_drewN ?_ _) | (with_reducible refine Kd.C_drew ?_))); (case side2 => exact HC0_1.out); rintro e w' ⟨rfl, ⟨nd, rfl⟩⟩))
   go_ret
   exact ⟨by first | rfl | (simp [errW_none, errW_some] <;> rfl) | (simp [*, errW_none, errW_some] <;> rfl), by repeat (first | (with_reducible first | exact HB.out | apply below_alloc | apply pw_below_drewN | apply below_drew1 | refine below_set ?_ GE491.out) | exact HB.out)⟩
  ·replace c4 := Bool.eq_false_iff.mpr c4
   subst c4
   have H1 : (some false) = some r := by rw [if_neg (show ¬ (false = true) by decide)] at H; exact H
   clear H
   have H := H1
   clear H1
   obtain rfl := Option.some.inj H
   go_enter Try.func68, Try.ntmps68
   go_wp2_with (first | ((with_reducible refine gate_dst (N := 1) rfl ?_); refine box_event ?hg (N := 1) ?hd (cs := #[.slice A0_0 l0_0.length c0_0, .slice A0_1 l0_1.length c0_1]) (t := 45) ?hr ?_; (case hd => rfl); (case hg => rfl); (case hr => first | (go_simp; done) | (go_simp; rfl)); intro gb491 hg w8 hbox hb; have n0_ := Aside0.mk (below_step hb_ hb); have n1_ := Aside0.mk (hbox); have n2_ := Aside0.mk ((by rw [hg]; exact (below_size hb_) : w.heap.size ≤ gb491)); have n3_ := Aside0.mk ((by rw [hg]; exact (below_size hb_) : w.heap.size ≤ gb491)); clear HB; have HB := n0_; have BK491 := n1_; have GW491 := n2_; have GE491 := n3_; clear n0_ n1_ n2_ n3_; clear hb hbox hg; have hcz9_0 : w8.cell? ⟨gb491, 0, none⟩ = some (.slice A0_0 l0_0.length c0_0) := (blk_cell BK491.out 0).trans rfl; have hcz9_1 : w8.cell? ⟨gb491, 1, none⟩ = some (.slice A0_1 l0_1.length c0_1) := (blk_cell BK491.out 1).trans rfl; have hfz9_0 := blk_frozen BK491.out 0; have hfz9_1 := blk_frozen BK491.out 1) | (go_at_call 96; (with_reducible refine (spec_l04Ascends.calls k _ _ l0_0 1 false _ ?side1 ?side2 A3.out).mono ?_); (case side1 => repeat (first | exact (Kd.C_below HR0_0.out HB.out) | (with_reducible refine Kd.C_alloc ?_ _) | (with_reducible refine Kd.C_drewN ?_ _) | (with_reducible refine Kd.C_drew ?_))); (case side2 => exact HC0_0.out); rintro e w' ⟨rfl, ⟨nd, rfl⟩⟩))
   go_ret
   exact ⟨by first | rfl | (simp [errW_none, errW_some] <;> rfl) | (simp [*, errW_none, errW_some] <;> rfl), by repeat (first | (with_reducible first | exact HB.out | apply below_alloc | apply pw_below_drewN | apply below_drew1 | refine below_set ?_ GE491.out) | exact HB.out)⟩
 ·rw [if_neg c2] at H
  have c2b0 : decide ((wrap64 ((l0_0.length : Int) + (l0_1.length : Int))) ≤ 8) = false := decide_eq_false c2
  clear c2
  obtain rfl := Option.some.inj H
  go_enter Try.func68, Try.ntmps68
  go_wp2_with (first | ((with_reducible refine gate_dst (N := 1) rfl ?_); refine box_event ?hg (N := 1) ?hd (cs := #[.slice A0_0 l0_0.length c0_0, .slice A0_1 l0_1.length c0_1]) (t := 45) ?hr ?_; (case hd => rfl); (case hg => rfl); (case hr => first | (go_simp; done) | (go_simp; rfl)); intro gb491 hg w10 hbox hb; have n0_ := Aside0.mk (below_step hb_ hb); have n1_ := Aside0.mk (hbox); have n2_ := Aside0.mk ((by rw [hg]; exact (below_size hb_) : w.heap.size ≤ gb491)); have n3_ := Aside0.mk ((by rw [hg]; exact (below_size hb_) : w.heap.size ≤ gb491)); clear HB; have HB := n0_; have BK491 := n1_; have GW491 := n2_; have GE491 := n3_; clear n0_ n1_ n2_ n3_; clear hb hbox hg; have hcz11_0 : w10.cell? ⟨gb491, 0, none⟩ = some (.slice A0_0 l0_0.length c0_0) := (blk_cell BK491.out 0).trans rfl; have hcz11_1 : w10.cell? ⟨gb491, 1, none⟩ = some (.slice A0_1 l0_1.length c0_1) := (blk_cell BK491.out 1).trans rfl; have hfz11_0 := blk_frozen BK491.out 0; have hfz11_1 := blk_frozen BK491.out 1))
  go_ret
  exact ⟨by first | rfl | (simp [errW_none, errW_some] <;> rfl) | (simp [*, errW_none, errW_some] <;> rfl), by repeat (first | (with_reducible first | exact HB.out | apply below_alloc | apply pw_below_drewN | apply below_drew1 | refine below_set ?_ GE491.out) | exact HB.out)⟩

end Go.Proofs.Ytpfhepbkgbeapaa.F
