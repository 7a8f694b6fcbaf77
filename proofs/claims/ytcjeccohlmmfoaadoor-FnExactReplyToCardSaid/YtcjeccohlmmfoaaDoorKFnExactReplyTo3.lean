-- written by the session's program xp.py over the kit's print program, and by hand; texts joined by pack.py
import Derived.Test.YtcjeccohlmmfoaaDoorKFnExactReplyTo2
namespace Go.Proofs.YtcjeccohlmmfoaaDoor.F
open Go.RowKit Go.Proofs.YtcjeccohlmmfoaaDoorW.PrintWords Go.Proofs.YtcjeccohlmmfoaaDoorW.PrintLast Go.Proofs.YtcjeccohlmmfoaaDoorW.PrintMore
attribute [local go_sem] max2_int min2_int max_two min_two max_three min_three max_four min_four   -- for this text's walks alone
set_option linter.unusedVariables false
set_option linter.unusedSimpArgs false

/-! ### spec_ReplyTo: function 16 -/
mutual
def spec_ReplyTo.j0 : Nat → ByteArray → Int → Int → Bool → Int → List (List Int) → Option (Int × Int)
 | 0, _, _, _, _, _, _ => none
 | k + 1, x1, x2, x8, x26, x283000, x283001 => if x26 = true then (spec_ReplyTo.j1 k x1 x2 2 x283000 x283001) else (spec_ReplyTo.j1 k x1 x2 x8 x283000 x283001)
def spec_ReplyTo.j1 : Nat → ByteArray → Int → Int → Int → List (List Int) → Option (Int × Int)
 | 0, _, _, _, _, _ => none
 | k + 1, x1, x2, x8, x283000, x283001 => if x8 = 0 then ((spec_l10Sets.f k x283000 x283001 x1).bind fun bt285 => ((spec_l10Over.f k x283000 x283001 bt285.1 bt285.2.1).bind fun t288 => (if t288 > 0 then (spec_ReplyTo.j2 k x2 bt285.1 bt285.2.1 true x283000 x283001) else (if 0 ≤ x2 then (if x2 < (x1.size : Int) then (spec_ReplyTo.j2 k x2 bt285.1 bt285.2.1 ((bt x1 x2) != 46) x283000 x283001) else (none)) else (none))))) else (some (0, x8))
def spec_ReplyTo.j2 : Nat → Int → Int → Int → Bool → Int → List (List Int) → Option (Int × Int)
 | 0, _, _, _, _, _, _ => none
 | k + 1, x2, x9, x10, x47, x283000, x283001 => if x47 = true then (some (0, 5)) else (if 0 ≤ (IntKind.u64.wrap (x2)) then ((spec_l10Known.f x283000 x283001).bind fun t289 => ((spec_l10Moves.f k x283000 x283001 x9 (Go.bits .or .i64 x10 (shl .i64 1 (IntKind.u64.wrap (x2)))) 1 t289).bind fun bt292 => (if (bt292.1.length : Int) = 0 then (some (0, 4)) else (if 0 < (bt292.1.length : Int) then (some (rd bt292.1 0, 0)) else (none))))) else (none))
end
def spec_ReplyTo.f (k : Nat) (a0_0 : Int) (l0_1 : List (List Int)) (a1 : ByteArray) (a2 : Int) : Option (Int × Int) := (spec_l10Code.f k a0_0 l0_1 a1).bind fun t283 => (if t283 = 0 then ((spec_l01In.f a2 0 (wrap64 ((l0_1.length : Int) - 1))).bind fun t284 => (spec_ReplyTo.j0 k a1 a2 t283 (!t284) a0_0 l0_1)) else (spec_ReplyTo.j0 k a1 a2 t283 false a0_0 l0_1))
def spec_ReplyTo.T10 : Bool × List (List Nat × List Nat) := (true, [([], []), ([], []), ([], []), ([], []), ([3], [3]), ([4], [4]), ([2, 5], [2, 5]), ([], []), ([7], [7]), ([0, 1, 6, 8, 8], [0, 1, 6, 8]), ([9, 9, 0, 1, 2, 3, 4, 5, 6, 7, 8, 9], [9])])
def spec_ReplyTo.B10 : List Nat := [0, 0, 0, 0, 8, 24, 60, 0, 128, 511, 1023]
theorem spec_ReplyTo.tab10 : rtab .any (opsOf Tryd.f16 10) = spec_ReplyTo.T10 := by kernel_rfl
theorem spec_ReplyTo.bits10 : waitsOk spec_ReplyTo.T10.2 spec_ReplyTo.B10 = true := by kernel_rfl
set_option maxHeartbeats 8000000 in
set_option maxRecDepth 100000 in
theorem spec_ReplyTo.calls (k : Nat) (a0_0 : Int) (A0_1 : Option Addr) (c0_1 : Nat) (l0_1 : List (List Int)) (a1 : ByteArray) (a2 : Int) (r1 : Int) (r2 : Int) (w : World) (hr0_1 : Kd.C (Kd.slice 2 (Kd.int .i64)) w A0_1 l0_1.length l0_1) (hc0_1 : l0_1.length ≤ c0_1) (h : spec_ReplyTo.f k a0_0 l0_1 a1 a2 = some (r1, r2)) :
  Calls Tryd.prog 16 #[.agg #[.int .i64 a0_0, .slice A0_1 l0_1.length c0_1], .string a1, .int .i64 a2] w fun e w' => e = .returned (.tuple #[.int .i64 r1, .int .i64 r2]) ∧ Below w.heap.size w w' := by
 have hu28 := Tryd.underlying28
 have HR0_1 := Aside0.mk hr0_1
 have HC0_1 := Aside0.mk hc0_1
 clear hr0_1 hc0_1
 have HB := Aside0.mk (Below.refl w.heap.size w)
 have H : ((spec_l10Code.f k a0_0 l0_1 a1).bind fun t283 => (if t283 = 0 then ((spec_l01In.f a2 0 (wrap64 ((l0_1.length : Int) - 1))).bind fun t284 => (spec_ReplyTo.j0 k a1 a2 t283 (!t284) a0_0 l0_1)) else (spec_ReplyTo.j0 k a1 a2 t283 false a0_0 l0_1))) = some (r1, r2) := h
 clear h
 replace H := Option.bind_eq_some_iff.mp H
 obtain ⟨t283, A40, H⟩ := H
 replace H : (if t283 = 0 then ((spec_l01In.f a2 0 (wrap64 ((l0_1.length : Int) - 1))).bind fun t284 => (spec_ReplyTo.j0 k a1 a2 t283 (!t284) a0_0 l0_1)) else (spec_ReplyTo.j0 k a1 a2 t283 false a0_0 l0_1)) = some (r1, r2) := H
 have A4 := Aside0.mk A40
 clear A40
 have HC5 := Aside0.mk H
 clear H
 go_enter Tryd.func16, Tryd.ntmps16
 go_upto_region 3 with (first | ((with_reducible refine gate_dst (N := 3) rfl ?_); (try (refine gate_guard (by rfl) ?_; dsimp only)); refine box_event ?hg (N := 3) ?hd (cs := #[.int .i64 a0_0, .slice A0_1 l0_1.length c0_1]) (t := 28) ?hr ?_; (case hd => rfl); (case hg => rfl); (case hr => first | (go_simp; done) | (go_simp; rfl)); intro gb282 hg w6 hbox hb; have n0_ := Aside0.mk (below_step hb_ hb); have n1_ := Aside0.mk (hbox); have n2_ := Aside0.mk ((by rw [hg]; exact (below_size hb_) : w.heap.size ≤ gb282)); have n3_ := Aside0.mk ((by rw [hg]; exact (below_size hb_) : w.heap.size ≤ gb282)); clear HB; have HB := n0_; have BK282 := n1_; have GW282 := n2_; have GE282 := n3_; clear n0_ n1_ n2_ n3_; clear hb hbox hg; have hcz7_0 : w6.cell? ⟨gb282, 0, none⟩ = some (.int .i64 a0_0) := (blk_cell BK282.out 0).trans rfl; have hcz7_1 : w6.cell? ⟨gb282, 1, none⟩ = some (.slice A0_1 l0_1.length c0_1) := (blk_cell BK282.out 1).trans rfl; have hfz7_0 := blk_frozen BK282.out 0; have hfz7_1 := blk_frozen BK282.out 1) | ((with_reducible refine gate_callee (f := 31) rfl ?_); refine goesA_ (some 15) rfl rfl Tryd.func31 (by kernel_rfl) rfl #[.agg #[.int .i64 a0_0, .slice A0_1 l0_1.length c0_1], .string a1] rfl ?_; (with_reducible refine (spec_l10Code.calls k a0_0 _ _ l0_1 a1 t283 _ ?side1 ?side2 A4.out).mono ?_); (case side1 => repeat (first | exact (Kd.C_below HR0_1.out HB.out) | (with_reducible refine Kd.C_alloc ?_ _) | (with_reducible refine Kd.C_drewN ?_ _) | (with_reducible refine Kd.C_drew ?_))); (case side2 => exact HC0_1.out); rintro e w8 ⟨rfl, hb⟩; refine ⟨_, rfl, ?_⟩; have n0_ := Aside0.mk (blk_below (g := gb282) (o := .cells #[.int .i64 a0_0, .slice A0_1 l0_1.length c0_1] 28 (0, 0)) (by (with_reducible repeat (first | refine blk_drewN ?_ _ | refine blk_drew ?_ | refine blk_alloc ?_ _)); exact BK282.out) hb); have n1_ := Aside0.mk (below_step (by repeat (first | (with_reducible first | exact HB.out | apply below_alloc | apply pw_below_drewN | apply below_drew1 | refine below_set ?_ GE282.out) | exact HB.out)) hb); clear BK282; clear HB; have BK282 := n0_; have HB := n1_; clear n0_ n1_; (try clear hb); (try clear hb2); (try clear hk); (try clear hi)))
 (try simp only [Act.put, List.setIfInBounds_toArray, List.set_cons_zero, List.set_cons_succ])
 go_cut [26] (fun v26 wc => ∃ (kq : Nat) (x26_4 : Bool), v26 = .bool x26_4 ∧ Aside0 (spec_ReplyTo.j0 kq a1 a2 t283 x26_4 a0_0 l0_1 = some (r1, r2)) ∧ Aside0 (kq ≤ k) ∧ Aside0 (wc.heap[gb282]? = some (.cells #[.int .i64 a0_0, (.slice A0_1 l0_1.length c0_1)] 28 (0, 0))) ∧ Aside0 (Below w.heap.size w wc))
 case first =>
  have H := HC5.out
  clear HC5
  by_cases c9 : t283 = 0
  ·rw [if_pos c9] at H
   have c9b0 : (t283 == 0) = true := beq_iff_eq.mpr c9
   have c9b1 : (t283 != 0) = false := bne_eq_false_iff_eq.mpr c9
   clear c9
   (first | rw [c9b0] | (simp only [i64_w, i32_w]; rw [c9b0]) | skip)
   replace H := Option.bind_eq_some_iff.mp H
   obtain ⟨t284, A100, H⟩ := H
   replace H : (spec_ReplyTo.j0 k a1 a2 t283 (!t284) a0_0 l0_1) = some (r1, r2) := H
   have A10 := Aside0.mk A100
   clear A100
   have H' := Aside0.mk H
   clear H
   have hcz11_0 : w8.cell? ⟨gb282, 0, none⟩ = some (.int .i64 a0_0) := (blk_cell BK282.out 0).trans rfl
   have hcz11_1 : w8.cell? ⟨gb282, 1, none⟩ = some (.slice A0_1 l0_1.length c0_1) := (blk_cell BK282.out 1).trans rfl
   have hfz11_0 := blk_frozen BK282.out 0
   have hfz11_1 := blk_frozen BK282.out 1
   go_wp2_with (first | (go_at_call 42; (with_reducible refine (spec_l01In.calls a2 0 (wrap64 ((l0_1.length : Int) - 1)) t284 _ A10.out).mono ?_); rintro e w' ⟨rfl, ⟨nd, rfl⟩⟩))
   go_meet
   case rel => exact ⟨_, (!t284), (by first | rfl | (simp; done) | (simp [*]; done)), H', ⟨by first | omega | exact Nat.le_refl _⟩, ⟨by (with_reducible repeat (first | refine blk_drewN ?_ _ | refine blk_drew ?_ | refine blk_alloc ?_ _)); exact BK282.out⟩, ⟨by repeat (first | (with_reducible first | exact HB.out | apply below_alloc | apply pw_below_drewN | apply below_drew1 | refine below_set ?_ GE282.out) | exact HB.out)⟩⟩
  ·rw [if_neg c9] at H
   have c9b0 : (t283 == 0) = false := beq_eq_false_iff_ne.mpr c9
   have c9b1 : (t283 != 0) = true := bne_iff_ne.mpr c9
   (first | rw [c9b0] | (simp only [i64_w, i32_w]; rw [c9b0]) | skip)
   have H' := Aside0.mk H
   clear H
   go_wp2
   go_meet
   case rel => exact ⟨_, (false), (by first | rfl | (simp; done) | (simp [*]; done)), H', ⟨by first | omega | exact Nat.le_refl _⟩, ⟨by (with_reducible repeat (first | refine blk_drewN ?_ _ | refine blk_drew ?_ | refine blk_alloc ?_ _)); exact BK282.out⟩, ⟨by repeat (first | (with_reducible first | exact HB.out | apply below_alloc | apply pw_below_drewN | apply below_drew1 | refine below_set ?_ GE282.out) | exact HB.out)⟩⟩
 case rest =>
  clear HC5
  (try clear c1); (try clear p2); (try clear c3); (try clear p6); (try clear c9); (try clear c9b0); (try clear c9b1); (try clear hcz11_0); (try clear hcz11_1); (try clear hcz7_0); (try clear hcz7_1); (try clear hfz11_0); (try clear hfz11_1); (try clear hfz7_0); (try clear hfz7_1)
  obtain ⟨kq, x26_4, rfl, HA, HJ4, BK282, HB⟩ := hcut
  cases kq with
  | zero => exact absurd HA.out (by simp [spec_ReplyTo.j0])
  | succ kj4 =>
   have H := HA.out
   clear HA
   simp only [spec_ReplyTo.j0] at H
   have HC12 := Aside0.mk H
   clear H
   go_upto_if 26 with (fail)
   go_cut [8] (fun v8 wc => ∃ (kq : Nat) (x8_11 : Int), v8 = .int .i64 x8_11 ∧ Aside0 (spec_ReplyTo.j1 kq a1 a2 x8_11 a0_0 l0_1 = some (r1, r2)) ∧ Aside0 (kq ≤ kj4) ∧ Aside0 (wc.heap[gb282]? = some (.cells #[.int .i64 a0_0, (.slice A0_1 l0_1.length c0_1)] 28 (0, 0))) ∧ Aside0 (Below w.heap.size w wc))
   case first =>
    have H := HC12.out
    clear HC12
    by_cases c13 : x26_4 = true
    ·subst c13
     have H1 : (spec_ReplyTo.j1 kj4 a1 a2 2 a0_0 l0_1) = some (r1, r2) := by rw [if_pos rfl] at H; exact H
     clear H
     have H := H1
     clear H1
     have H' := Aside0.mk H
     clear H
     go_wp2
     go_meet
     case rel => exact ⟨_, (2), (by first | rfl | (simp; done) | (simp [*]; done)), H', ⟨by have := HJ4.out; first | omega | exact Nat.le_refl _⟩, ⟨by (with_reducible repeat (first | refine blk_drewN ?_ _ | refine blk_drew ?_ | refine blk_alloc ?_ _)); exact BK282.out⟩, ⟨by repeat (first | (with_reducible first | exact HB.out | apply below_alloc | apply pw_below_drewN | apply below_drew1 | refine below_set ?_ GE282.out) | exact HB.out)⟩⟩
    ·replace c13 := Bool.eq_false_iff.mpr c13
     subst c13
     have H1 : (spec_ReplyTo.j1 kj4 a1 a2 t283 a0_0 l0_1) = some (r1, r2) := by rw [if_neg (show ¬ (false = true) by decide)] at H; exact H
     clear H
     have H := H1
     clear H1
     have H' := Aside0.mk H
     clear H
     go_wp2
     go_meet
     case rel => exact ⟨_, (t283), (by first | rfl | (simp; done) | (simp [*]; done)), H', ⟨by have := HJ4.out; first | omega | exact Nat.le_refl _⟩, ⟨by (with_reducible repeat (first | refine blk_drewN ?_ _ | refine blk_drew ?_ | refine blk_alloc ?_ _)); exact BK282.out⟩, ⟨by repeat (first | (with_reducible first | exact HB.out | apply below_alloc | apply pw_below_drewN | apply below_drew1 | refine below_set ?_ GE282.out) | exact HB.out)⟩⟩
   case rest =>
    clear HC12
    (try clear c1); (try clear p2); (try clear c3); (try clear p6); (try clear c9); (try clear c9b0); (try clear c9b1); (try clear c13); (try clear hcz11_0); (try clear hcz11_1); (try clear hcz7_0); (try clear hcz7_1); (try clear hfz11_0); (try clear hfz11_1); (try clear hfz7_0); (try clear hfz7_1); (try clear p2); (try clear p6)
    obtain ⟨kq, x8_11, rfl, HA, HJ11, BK282, HB⟩ := hcut
    cases kq with
    | zero => exact absurd HA.out (by simp [spec_ReplyTo.j1])
    | succ kj11 =>
     have H := HA.out
     clear HA
     simp only [spec_ReplyTo.j1] at H
     by_cases c14 : x8_11 = 0
     ·rw [if_pos c14] at H
      have c14b0 : (x8_11 == 0) = true := beq_iff_eq.mpr c14
      have c14b1 : (x8_11 != 0) = false := bne_eq_false_iff_eq.mpr c14
      clear c14
      replace H := Option.bind_eq_some_iff.mp H
      obtain ⟨⟨t285, t286, t287⟩, A150, H⟩ := H
      replace H : ((spec_l10Over.f kj11 a0_0 l0_1 t285 t286).bind fun t288 => (if t288 > 0 then (spec_ReplyTo.j2 kj11 a2 t285 t286 true a0_0 l0_1) else (if 0 ≤ a2 then (if a2 < (a1.size : Int) then (spec_ReplyTo.j2 kj11 a2 t285 t286 ((bt a1 a2) != 46) a0_0 l0_1) else (none)) else (none)))) = some (r1, r2) := H
      have A15 := Aside0.mk A150
      clear A150
      have HC16 := Aside0.mk H
      clear H
      have hcz17_0 : wc.cell? ⟨gb282, 0, none⟩ = some (.int .i64 a0_0) := (blk_cell BK282.out 0).trans rfl
      have hcz17_1 : wc.cell? ⟨gb282, 1, none⟩ = some (.slice A0_1 l0_1.length c0_1) := (blk_cell BK282.out 1).trans rfl
      have hfz17_0 := blk_frozen BK282.out 0
      have hfz17_1 := blk_frozen BK282.out 1
      go_upto_region 8 with (first | ((with_reducible refine gate_callee (f := 32) rfl ?_); refine goesA_ (some 33) rfl rfl Tryd.func32 (by kernel_rfl) rfl #[.agg #[.int .i64 a0_0, .slice A0_1 l0_1.length c0_1], .string a1] rfl ?_; (with_reducible refine (spec_l10Sets.calls kj11 a0_0 _ _ l0_1 a1 t285 t286 t287 _ ?side1 ?side2 A15.out).mono ?_); (case side1 => repeat (first | exact (Kd.C_below HR0_1.out HB.out) | (with_reducible refine Kd.C_alloc ?_ _) | (with_reducible refine Kd.C_drewN ?_ _) | (with_reducible refine Kd.C_drew ?_))); (case side2 => exact HC0_1.out); rintro e w18 ⟨rfl, hb⟩; refine ⟨_, rfl, ?_⟩; have n0_ := Aside0.mk (blk_below (g := gb282) (o := .cells #[.int .i64 a0_0, .slice A0_1 l0_1.length c0_1] 28 (0, 0)) (by (with_reducible repeat (first | refine blk_drewN ?_ _ | refine blk_drew ?_ | refine blk_alloc ?_ _)); exact BK282.out) hb); have n1_ := Aside0.mk (below_step (by repeat (first | (with_reducible first | exact HB.out | apply below_alloc | apply pw_below_drewN | apply below_drew1 | refine below_set ?_ GE282.out) | exact HB.out)) hb); clear BK282; clear HB; have BK282 := n0_; have HB := n1_; clear n0_ n1_; (try clear hb); (try clear hb2); (try clear hk); (try clear hi)))
      (try simp only [Act.put, List.setIfInBounds_toArray, List.set_cons_zero, List.set_cons_succ])
      go_cut [47] (fun v47 wc => ∃ (kq : Nat) (x47_15 : Bool), v47 = .bool x47_15 ∧ Aside0 (spec_ReplyTo.j2 kq a2 t285 t286 x47_15 a0_0 l0_1 = some (r1, r2)) ∧ Aside0 (kq ≤ kj11) ∧ Aside0 (wc.heap[gb282]? = some (.cells #[.int .i64 a0_0, (.slice A0_1 l0_1.length c0_1)] 28 (0, 0))) ∧ Aside0 (Below w.heap.size w wc))
      case first =>
       have H := HC16.out
       clear HC16
       replace H := Option.bind_eq_some_iff.mp H
       obtain ⟨t288, A190, H⟩ := H
       replace H : (if t288 > 0 then (spec_ReplyTo.j2 kj11 a2 t285 t286 true a0_0 l0_1) else (if 0 ≤ a2 then (if a2 < (a1.size : Int) then (spec_ReplyTo.j2 kj11 a2 t285 t286 ((bt a1 a2) != 46) a0_0 l0_1) else (none)) else (none))) = some (r1, r2) := H
       have A19 := Aside0.mk A190
       clear A190
       by_cases c20 : t288 > 0
       ·rw [if_pos c20] at H
        have c20b0 : decide (0 < t288) = true := decide_eq_true c20
        clear c20
        (first | rw [c20b0] | (simp only [i64_w, i32_w]; rw [c20b0]) | skip)
        have H' := Aside0.mk H
        clear H
        have hcz21_0 : w18.cell? ⟨gb282, 0, none⟩ = some (.int .i64 a0_0) := (blk_cell BK282.out 0).trans rfl
        have hcz21_1 : w18.cell? ⟨gb282, 1, none⟩ = some (.slice A0_1 l0_1.length c0_1) := (blk_cell BK282.out 1).trans rfl
        have hfz21_0 := blk_frozen BK282.out 0
        have hfz21_1 := blk_frozen BK282.out 1
        go_wp2_with (first | ((with_reducible refine gate_callee (f := 33) rfl ?_); refine goesA_ (some 40) rfl rfl Tryd.func33 (by kernel_rfl) rfl #[.agg #[.int .i64 a0_0, .slice A0_1 l0_1.length c0_1], .int .i64 t285, .int .i64 t286] rfl ?_; (with_reducible refine (spec_l10Over.calls kj11 a0_0 _ _ l0_1 t285 t286 t288 _ ?side1 ?side2 A19.out).mono ?_); (case side1 => repeat (first | exact (Kd.C_below HR0_1.out HB.out) | (with_reducible refine Kd.C_alloc ?_ _) | (with_reducible refine Kd.C_drewN ?_ _) | (with_reducible refine Kd.C_drew ?_))); (case side2 => exact HC0_1.out); rintro e w22 ⟨rfl, hb⟩; refine ⟨_, rfl, ?_⟩; have n0_ := Aside0.mk (blk_below (g := gb282) (o := .cells #[.int .i64 a0_0, .slice A0_1 l0_1.length c0_1] 28 (0, 0)) (by (with_reducible repeat (first | refine blk_drewN ?_ _ | refine blk_drew ?_ | refine blk_alloc ?_ _)); exact BK282.out) hb); have n1_ := Aside0.mk (below_step (by repeat (first | (with_reducible first | exact HB.out | apply below_alloc | apply pw_below_drewN | apply below_drew1 | refine below_set ?_ GE282.out) | exact HB.out)) hb); clear BK282; clear HB; have BK282 := n0_; have HB := n1_; clear n0_ n1_; (try clear hb); (try clear hb2); (try clear hk); (try clear hi)))
        go_meet
        case rel => exact ⟨_, (true), (by first | rfl | (simp; done) | (simp [*]; done)), H', ⟨by have := HJ4.out; have := HJ11.out; first | omega | exact Nat.le_refl _⟩, ⟨by (with_reducible repeat (first | refine blk_drewN ?_ _ | refine blk_drew ?_ | refine blk_alloc ?_ _)); exact BK282.out⟩, ⟨by repeat (first | (with_reducible first | exact HB.out | apply below_alloc | apply pw_below_drewN | apply below_drew1 | refine below_set ?_ GE282.out) | exact HB.out)⟩⟩
       ·rw [if_neg c20] at H
        have c20b0 : decide (0 < t288) = false := decide_eq_false c20
        clear c20
        (first | rw [c20b0] | (simp only [i64_w, i32_w]; rw [c20b0]) | skip)
        by_cases c23 : 0 ≤ a2
        ·rw [if_pos c23] at H
         have c23b0 : decide (0 ≤ a2) = true := decide_eq_true c23
         clear c23
         by_cases c24 : a2 < (a1.size : Int)
         ·rw [if_pos c24] at H
          have c24b0 : decide (a2 < (a1.size : Int)) = true := decide_eq_true c24
          clear c24
          have H' := Aside0.mk H
          clear H
          have hcz26_0 : w18.cell? ⟨gb282, 0, none⟩ = some (.int .i64 a0_0) := (blk_cell BK282.out 0).trans rfl
          have hcz26_1 : w18.cell? ⟨gb282, 1, none⟩ = some (.slice A0_1 l0_1.length c0_1) := (blk_cell BK282.out 1).trans rfl
          have hfz26_0 := blk_frozen BK282.out 0
          have hfz26_1 := blk_frozen BK282.out 1
          go_wp2_with (first | ((with_reducible refine gate_callee (f := 33) rfl ?_); refine goesA_ (some 40) rfl rfl Tryd.func33 (by kernel_rfl) rfl #[.agg #[.int .i64 a0_0, .slice A0_1 l0_1.length c0_1], .int .i64 t285, .int .i64 t286] rfl ?_; (with_reducible refine (spec_l10Over.calls kj11 a0_0 _ _ l0_1 t285 t286 t288 _ ?side1 ?side2 A19.out).mono ?_); (case side1 => repeat (first | exact (Kd.C_below HR0_1.out HB.out) | (with_reducible refine Kd.C_alloc ?_ _) | (with_reducible refine Kd.C_drewN ?_ _) | (with_reducible refine Kd.C_drew ?_))); (case side2 => exact HC0_1.out); rintro e w27 ⟨rfl, hb⟩; refine ⟨_, rfl, ?_⟩; have n0_ := Aside0.mk (blk_below (g := gb282) (o := .cells #[.int .i64 a0_0, .slice A0_1 l0_1.length c0_1] 28 (0, 0)) (by (with_reducible repeat (first | refine blk_drewN ?_ _ | refine blk_drew ?_ | refine blk_alloc ?_ _)); exact BK282.out) hb); have n1_ := Aside0.mk (below_step (by repeat (first | (with_reducible first | exact HB.out | apply below_alloc | apply pw_below_drewN | apply below_drew1 | refine below_set ?_ GE282.out) | exact HB.out)) hb); clear BK282; clear HB; have BK282 := n0_; have HB := n1_; clear n0_ n1_; (try clear hb); (try clear hb2); (try clear hk); (try clear hi); have p25 : 0 ≤ (a2 : Int) := oda; have q25 : a2 < (a1.size : Int) := oda; have hx25 := bt_at a1 a2; replace p25 := eq_true p25; replace q25 := eq_true q25))
          go_meet
          case rel => exact ⟨_, (((bt a1 a2) != 46)), (by first | rfl | (simp; done) | (simp [*]; done)), H', ⟨by have := HJ4.out; have := HJ11.out; first | omega | exact Nat.le_refl _⟩, ⟨by (with_reducible repeat (first | refine blk_drewN ?_ _ | refine blk_drew ?_ | refine blk_alloc ?_ _)); exact BK282.out⟩, ⟨by repeat (first | (with_reducible first | exact HB.out | apply below_alloc | apply pw_below_drewN | apply below_drew1 | refine below_set ?_ GE282.out) | exact HB.out)⟩⟩
         ·rw [if_neg c24] at H
          exact absurd H (by simp)
        ·rw [if_neg c23] at H
         exact absurd H (by simp)
      case rest =>
       clear HC16
       (try clear c1); (try clear c2); (try clear p2); (try clear q2); (try clear hx2); (try clear c3); (try clear p6); (try clear c9); (try clear c9b0); (try clear c9b1); (try clear c13); (try clear c14); (try clear c14b0); (try clear c14b1); (try clear c16); (try clear c20); (try clear c20b0); (try clear c23); (try clear c23b0); (try clear c24); (try clear c24b0); (try clear p25); (try clear q25); (try clear hx25); (try clear hcz11_0); (try clear hcz11_1); (try clear hcz17_0); (try clear hcz17_1); (try clear hcz21_0); (try clear hcz21_1); (try clear hcz26_0); (try clear hcz26_1); (try clear hcz7_0); (try clear hcz7_1); (try clear hfz11_0); (try clear hfz11_1); (try clear hfz17_0); (try clear hfz17_1); (try clear hfz21_0); (try clear hfz21_1); (try clear hfz26_0); (try clear hfz26_1); (try clear hfz7_0); (try clear hfz7_1); (try clear p2); (try clear p25); (try clear p6); (try clear q25)
       obtain ⟨kq, x47_15, rfl, HA, HJ15, BK282, HB⟩ := hcut
       cases kq with
       | zero => exact absurd HA.out (by simp [spec_ReplyTo.j2])
       | succ kj15 =>
        have H := HA.out
        clear HA
        simp only [spec_ReplyTo.j2] at H
        by_cases c28 : x47_15 = true
        ·subst c28
         have H1 : (some (0, 5)) = some (r1, r2) := by rw [if_pos rfl] at H; exact H
         clear H
         have H := H1
         clear H1
         simp only [Option.some.injEq, Prod.mk.injEq] at H
         obtain ⟨rfl, rfl⟩ := H
         go_wp2
         go_ret2
         exact ⟨by first | rfl | (simp [errW_none, errW_some] <;> rfl) | (simp [*, errW_none, errW_some] <;> rfl), by repeat (first | (with_reducible first | exact HB.out | apply below_alloc | apply pw_below_drewN | apply below_drew1 | refine below_set ?_ GE282.out) | exact HB.out)⟩
        ·replace c28 := Bool.eq_false_iff.mpr c28
         subst c28
         have H1 : (if 0 ≤ (IntKind.u64.wrap (a2)) then ((spec_l10Known.f a0_0 l0_1).bind fun t289 => ((spec_l10Moves.f kj15 a0_0 l0_1 t285 (Go.bits .or .i64 t286 (shl .i64 1 (IntKind.u64.wrap (a2)))) 1 t289).bind fun bt292 => (if (bt292.1.length : Int) = 0 then (some (0, 4)) else (if 0 < (bt292.1.length : Int) then (some (rd bt292.1 0, 0)) else (none))))) else (none)) = some (r1, r2) := by rw [if_neg (show ¬ (false = true) by decide)] at H; exact H
         clear H
         have H := H1
         clear H1
         obtain ⟨ji29, hji29⟩ : ∃ j_ : Int, (IntKind.u64.wrap (a2)) = j_ := ⟨_, rfl⟩
         replace H : (if 0 ≤ (ji29) then ((spec_l10Known.f a0_0 l0_1).bind fun t289 => ((spec_l10Moves.f kj15 a0_0 l0_1 t285 (Go.bits .or .i64 t286 (shl .i64 1 (ji29))) 1 t289).bind fun bt292 => (if (bt292.1.length : Int) = 0 then (some (0, 4)) else (if 0 < (bt292.1.length : Int) then (some (rd bt292.1 0, 0)) else (none))))) else (none)) = some (r1, r2) := by first | (rw [hji29] at H; exact H) | (simp only [hji29] at H ⊢; exact H)
         by_cases c30 : 0 ≤ (ji29)
         ·rw [if_pos c30] at H
          have c30b0 := eq_true c30
          have c30b1 : decide (0 ≤ (ji29)) = true := decide_eq_true c30
          clear c30
          obtain ⟨ji31, hji31⟩ : ∃ j_ : Int, (shl .i64 1 (ji29)) = j_ := ⟨_, rfl⟩
          replace H : ((spec_l10Known.f a0_0 l0_1).bind fun t289 => ((spec_l10Moves.f kj15 a0_0 l0_1 t285 (Go.bits .or .i64 t286 (ji31)) 1 t289).bind fun bt292 => (if (bt292.1.length : Int) = 0 then (some (0, 4)) else (if 0 < (bt292.1.length : Int) then (some (rd bt292.1 0, 0)) else (none))))) = some (r1, r2) := by first | (rw [hji31] at H; exact H) | (simp only [hji31] at H ⊢; exact H)
          have hji31_ : (IntKind.i64.wrap (1 * 2 ^ min (ji29).toNat 64)) = ji31 := hji31
          have hji31z : (ji29) ≤ 64 → (IntKind.i64.wrap (1 * 2 ^ (ji29).toNat)) = ji31 := shl_small hji31
          have hji31u : (IntKind.i64.wrap (2 ^ min (ji29).toNat 64)) = ji31 := by have h_ := hji31_; rw [Int.one_mul] at h_; exact h_
          have hji31v : (ji29) ≤ 64 → (IntKind.i64.wrap (2 ^ (ji29).toNat)) = ji31 := fun hle_ => by have h_ := hji31z hle_; rw [Int.one_mul] at h_; exact h_
          have hji31y : (wrap64 (1 * 2 ^ min (ji29).toNat 64)) = ji31 := (i64_w _).symm.trans hji31_
          have hji31x : (ji29) ≤ 64 → (wrap64 (1 * 2 ^ (ji29).toNat)) = ji31 := fun h_ => (i64_w _).symm.trans (hji31z h_)
          replace H := Option.bind_eq_some_iff.mp H
          obtain ⟨t289, A320, H⟩ := H
          replace H : ((spec_l10Moves.f kj15 a0_0 l0_1 t285 (Go.bits .or .i64 t286 (ji31)) 1 t289).bind fun bt292 => (if (bt292.1.length : Int) = 0 then (some (0, 4)) else (if 0 < (bt292.1.length : Int) then (some (rd bt292.1 0, 0)) else (none)))) = some (r1, r2) := H
          have A32 := Aside0.mk A320
          clear A320
          replace H := Option.bind_eq_some_iff.mp H
          obtain ⟨⟨t292, t295⟩, A330, H⟩ := H
          replace H : (if (t292.length : Int) = 0 then (some (0, 4)) else (if 0 < (t292.length : Int) then (some (rd t292 0, 0)) else (none))) = some (r1, r2) := H
          have A33 := Aside0.mk A330
          clear A330
          by_cases c34 : (t292.length : Int) = 0
          ·rw [if_pos c34] at H
           have c34b0 : ((t292.length : Int) == 0) = true := beq_iff_eq.mpr c34
           have c34b1 : ((t292.length : Int) != 0) = false := bne_eq_false_iff_eq.mpr c34
           clear c34
           simp only [Option.some.injEq, Prod.mk.injEq] at H
           obtain ⟨rfl, rfl⟩ := H
           try go_wp2
           have n0_ := Aside0.mk (blk_drew BK282.out)
           have n1_ := Aside0.mk (below_drew1 HB.out)
           clear BK282
           clear HB
           have BK282 := n0_
           have HB := n1_
           clear n0_ n1_
           refine start_ (n := 11) (S := fun w' => w'.cell? ⟨gb282, 0, none⟩ = some (.int .i64 a0_0) ∧ w'.cell? ⟨gb282, 1, none⟩ = some (.slice A0_1 l0_1.length c0_1)) (ds := []) #[false, false, false, false, false, false, false, false, false, false, false] (by kernel_rfl) rfl rfl ⟨(blk_cell BK282.out 0).trans rfl, (blk_cell BK282.out 1).trans rfl⟩ (fun hHeld => ?_); refine with_tabW spec_ReplyTo.tab10 spec_ReplyTo.bits10 (fun HT_ HW_ => ?_)
           generalize wc.drew = w35 at BK282 HB hHeld ⊢
           refine pure_ (i := 1) (N := some 49) (v := ?_) (a' := ?_) #[false, true, false, false, false, false, false, false, false, false, false] rfl rfl (any_of HT_.out (by kernel_rfl)) (fun _ _ _ h => h) (Or.inl ⟨by rfl, ?_⟩) ?_ ?_
           rotate_left; (· (intro w'; go_simp; with_reducible rfl)); rotate_left; (· (simp only [Act.put, List.setIfInBounds_toArray, List.set_cons_zero, List.set_cons_succ, i64_w, i32_w]; rfl))
           refine pure_ (i := 2) (N := some 50) (v := ?_) (a' := ?_) #[false, true, true, false, false, false, false, false, false, false, false] rfl rfl (any_of HT_.out (by kernel_rfl)) (fun _ _ _ h => h) (Or.inl ⟨by rfl, ?_⟩) ?_ ?_
           rotate_left; (· (intro w'; go_simp; with_reducible rfl)); rotate_left; (· (simp only [Act.put, List.setIfInBounds_toArray, List.set_cons_zero, List.set_cons_succ, i64_w, i32_w]; rfl))
           refine pure_ (i := 3) (N := some 51) (v := ?_) (a' := ?_) #[false, true, true, true, false, false, false, false, false, false, false] rfl rfl (any_of HT_.out (by kernel_rfl)) (fun _ _ _ h => h) (Or.inl ⟨by rfl, ?_⟩) ?_ ?_
           rotate_left; (· (intro w'; go_simp; with_reducible rfl)); rotate_left; (· (simp only [Act.put, List.setIfInBounds_toArray, List.set_cons_zero, List.set_cons_succ, i64_w, i32_w]; rfl))
           refine pure_ (i := 4) (N := some 52) (v := ?_) (a' := ?_) #[false, true, true, true, true, false, false, false, false, false, false] rfl rfl (any_of HT_.out (by kernel_rfl)) (fun _ _ _ h => h) (Or.inl ⟨by rfl, ?_⟩) ?_ ?_
           rotate_left; (· (intro w'; go_simp; with_reducible rfl)); rotate_left; (· (simp only [Act.put, List.setIfInBounds_toArray, List.set_cons_zero, List.set_cons_succ, i64_w, i32_w]; rfl))
           refine pure_ (i := 5) (N := some 53) (v := ?_) (a' := ?_) #[false, true, true, true, true, true, false, false, false, false, false] rfl rfl (any_of HT_.out (by kernel_rfl)) (fun _ _ _ h => h) (Or.inl ⟨by rfl, ?_⟩) ?_ ?_
           rotate_left; (· (intro w'; go_simp; with_reducible rfl)); rotate_left; (· (simp only [Act.put, List.setIfInBounds_toArray, List.set_cons_zero, List.set_cons_succ, i64_w, i32_w]; rfl))
           refine pure_ (i := 6) (N := some 54) (v := ?_) (a' := ?_) #[false, true, true, true, true, true, true, false, false, false, false] rfl rfl (any_of HT_.out (by kernel_rfl)) (fun _ _ _ h => h) (Or.inl ⟨by rfl, ?_⟩) ?_ ?_
           rotate_left; (· (intro w'; go_simp; with_reducible rfl)); rotate_left; (· (simp only [Act.put, List.setIfInBounds_toArray, List.set_cons_zero, List.set_cons_succ, i64_w, i32_w]; rfl))
           refine take_ (i := 0) (N := some 48) (v := ?_) (a' := ?_) #[true, true, true, true, true, true, true, false, false, false, false] rfl rfl (take_ofW HT_.out HW_.out (by kernel_rfl)) (fun _ _ _ h => h) (Or.inl ⟨by rfl, ?_⟩) hHeld ?_ ?_
           rotate_left; (· (rintro w' ⟨s0, s1⟩; go_simp; with_reducible rfl)); rotate_left; (· (simp only [Act.put, List.setIfInBounds_toArray, List.set_cons_zero, List.set_cons_succ, i64_w, i32_w]; rfl))
           refine take_ (i := 7) (N := some 55) (v := ?_) (a' := ?_) #[true, true, true, true, true, true, true, true, false, false, false] rfl rfl (take_ofW HT_.out HW_.out (by kernel_rfl)) (fun _ _ _ h => h) (Or.inl ⟨by rfl, ?_⟩) hHeld ?_ ?_
           rotate_left; (· (rintro w' ⟨s0, s1⟩; go_simp; with_reducible rfl)); rotate_left; (· (simp only [Act.put, List.setIfInBounds_toArray, List.set_cons_zero, List.set_cons_succ, i64_w, i32_w]; rfl))
           refine one_ (i := 8) (N := some 56) #[true, true, true, true, true, true, true, true, true, false, false] rfl rfl (one_of HT_.out (by kernel_rfl)) (by decide) (fun K hK => ?_)
           refine goes_ Tryd.func40 (by kernel_rfl) rfl #[.agg #[.int .i64 a0_0, .slice A0_1 l0_1.length c0_1]] (by rfl) rfl rfl (by (try simp only [List.map_toArray, List.map_cons, List.map_nil]); first | done | rfl | (simp only [List.length_drop, List.length_take]; rfl)) ?_
           with_reducible refine (spec_l10Known.calls a0_0 _ _ l0_1 t289 _ ?side1 ?side2 A32.out).mono ?_
           (case side1 => repeat (first | exact (Kd.C_below HR0_1.out HB.out) | (with_reducible refine Kd.C_alloc ?_ _) | (with_reducible refine Kd.C_drewN ?_ _) | (with_reducible refine Kd.C_drew ?_)))
           (case side2 => exact HC0_1.out)
           rintro e w36 ⟨v290, rfl, ho0, hb⟩
           refine ⟨_, rfl, ?_⟩
           have n0_ := Aside0.mk (Kd.R_lower ho0 (below_size (by repeat (first | (with_reducible first | exact HB.out | apply below_alloc | apply pw_below_drewN | apply below_drew1 | refine below_set ?_ GE282.out) | exact HB.out))))
           have n1_ := Aside0.mk (blk_below (g := gb282) (o := .cells #[.int .i64 a0_0, .slice A0_1 l0_1.length c0_1] 28 (0, 0)) (by (with_reducible repeat (first | refine blk_drewN ?_ _ | refine blk_drew ?_ | refine blk_alloc ?_ _)); exact BK282.out) hb)
           have n2_ := Aside0.mk (below_step (by repeat (first | (with_reducible first | exact HB.out | apply below_alloc | apply pw_below_drewN | apply below_drew1 | refine below_set ?_ GE282.out) | exact HB.out)) hb)
           clear BK282
           clear HB
           have HO291 := n0_
           have BK282 := n1_
           have HB := n2_
           clear n0_ n1_ n2_
           (try clear hb)
           (try clear hb2)
           (try clear hk)
           (try clear hi)
           (try clear ho0)
           obtain ⟨Ao37, co37, eo37⟩ := Kd.R_slice HO291.out
           (first | subst eo37 | (injection eo37 with f1_ f2_ f3_; have f4_ := f1_.symm; have f5_ := f3_.symm; clear f1_ f2_ f3_; subst f4_; subst f5_))
           refine hK.out _ _ ⟨(blk_cell BK282.out 0).trans rfl, (blk_cell BK282.out 1).trans rfl⟩ (fun hHeld => ?_)
           clear hK K
           refine norm_ (a' := ?_) ?_ ?_
           rotate_left
           ·show Act.put _ (some 56) _ = _
            simp only [Act.put, List.setIfInBounds_toArray, List.set_cons_zero, List.set_cons_succ, i64_w, i32_w]
            rfl
           refine one_ (i := 9) (N := some 57) #[true, true, true, true, true, true, true, true, true, true, false] rfl rfl (one_of HT_.out (by kernel_rfl)) (by decide) (fun K hK => ?_)
           refine goes_ Tryd.func43 (by kernel_rfl) rfl #[.agg #[.int .i64 a0_0, .slice A0_1 l0_1.length c0_1], .int .i64 t285, .int .i64 (Go.bits .or .i64 t286 (ji31)), .int .i64 1, .slice Ao37 t289.length co37] (by rfl) rfl rfl (by (try simp only [List.map_toArray, List.map_cons, List.map_nil]); first | done | (simp only [hji31]; rfl) | rfl | (simp only [List.length_drop, List.length_take]; rfl)) ?_
           with_reducible refine (spec_l10Moves.calls kj15 a0_0 _ _ l0_1 t285 (Go.bits .or .i64 t286 (ji31)) 1 (fun k_ => some k_ = (.slice Ao37 t289.length co37 : Value).ownBlock) (.slice Ao37 t289.length co37) t289 t292 t295 w _ ?side1 ?side2 ?side3 ?side4 A33.out).mono ?_
           (case side1 => repeat (first | (with_reducible first | exact HB.out | apply below_alloc | apply pw_below_drewN | apply below_drew1 | refine below_set ?_ GE282.out) | exact HB.out))
           (case side2 => exact Kd.C_kept_came (Kd.heap_slice 2 (Kd.heap_int .i64)) HR0_1.out (by repeat (first | (with_reducible first | exact HB.out | apply below_alloc | apply pw_below_drewN | apply below_drew1 | refine below_set ?_ GE282.out) | exact HB.out)) (fun k_ hs_ => (fun e_ => Kd.R_base HO291.out k_ e_.symm) hs_))
           (case side3 => exact HC0_1.out)
           (case side4 => exact Kd.R_tight rfl HO291.out)
           rintro e w38 ⟨v293, rfl, ho0, hy0, hb, hkp⟩
           refine ⟨_, rfl, ?_⟩
           have n0_ := Aside0.mk (blk_kept (by (with_reducible repeat (first | refine blk_drewN ?_ _ | refine blk_drew ?_ | refine blk_alloc ?_ _)); exact BK282.out) hkp (fun hs_ => (fun e_ => (Kd.R_ne HO291.out BK282.out (by decide)) e_) hs_))
           have n1_ := Aside0.mk (Kd.R_reok rfl hy0 (fun k_ e_ => HO291.out.1 k_ e_))
           have n2_ := Aside0.mk (Kd.R_mono (ok' := fun k_ => some k_ ≠ (.slice Ao37 t289.length co37 : Value).ownBlock) ho0 (fun k_ hk_ => hk_.2))
           have n3_ := Aside0.mk (hb)
           clear BK282
           clear HO291
           clear HB
           have BK282 := n0_
           have HO291 := n1_
           have HO294 := n2_
           have HB := n3_
           clear n0_ n1_ n2_ n3_
           (try clear hb)
           (try clear hkp)
           (try clear ho0)
           (try clear hy0)
           refine hK.out _ _ ⟨(blk_cell BK282.out 0).trans rfl, (blk_cell BK282.out 1).trans rfl⟩ (fun hHeld => ?_)
           clear hK K
           refine norm_ (a' := ?_) ?_ ?_
           rotate_left
           ·show Act.put _ (some 57) _ = _
            simp only [Act.put, List.setIfInBounds_toArray, List.set_cons_zero, List.set_cons_succ, i64_w, i32_w]
            rfl
           refine pure_ (i := 10) (N := some 12) (v := ?_) (a' := ?_) #[true, true, true, true, true, true, true, true, true, true, true] rfl rfl (any_of HT_.out (by kernel_rfl)) (fun _ _ _ h => h) (Or.inl ⟨by rfl, ?_⟩) ?_ ?_
           rotate_left; (· (intro w'; go_simp; with_reducible rfl)); rotate_left; (· (simp only [Act.put, List.setIfInBounds_toArray, List.set_cons_zero, List.set_cons_succ, i64_w, i32_w]; rfl))
           refine done_ (done_of HT_.out (by kernel_rfl)) ?_
           obtain ⟨Ao39, co39, eo39⟩ := Kd.R_slice HO294.out
           subst eo39
           try go_wp2
           go_ret2
           exact ⟨by first | rfl | (simp [errW_none, errW_some] <;> rfl) | (simp only [← hji29, ← hji31]; first | rfl | (simp [errW_none, errW_some] <;> rfl)) | (simp [*, errW_none, errW_some] <;> rfl), by repeat (first | (with_reducible first | exact HB.out | apply below_alloc | apply pw_below_drewN | apply below_drew1 | refine below_set ?_ GE282.out) | exact HB.out)⟩
          ·rw [if_neg c34] at H
           have c34b0 : ((t292.length : Int) == 0) = false := beq_eq_false_iff_ne.mpr c34
           have c34b1 : ((t292.length : Int) != 0) = true := bne_iff_ne.mpr c34
           have c34b2 : ¬ (t292 = []) := fun h_ => c34 (by rw [h_]; rfl)
           by_cases c40 : 0 < (t292.length : Int)
           ·rw [if_pos c40] at H
            have c40b0 : decide (0 < (t292.length : Int)) = true := decide_eq_true c40
            have c40b1 : decide (0 < t292.length) = true := decide_eq_true (by omega)
            clear c40
            simp only [Option.some.injEq, Prod.mk.injEq] at H
            obtain ⟨rfl, rfl⟩ := H
            try go_wp2
            have n0_ := Aside0.mk (blk_drew BK282.out)
            have n1_ := Aside0.mk (below_drew1 HB.out)
            clear BK282
            clear HB
            have BK282 := n0_
            have HB := n1_
            clear n0_ n1_
            refine start_ (n := 11) (S := fun w' => w'.cell? ⟨gb282, 0, none⟩ = some (.int .i64 a0_0) ∧ w'.cell? ⟨gb282, 1, none⟩ = some (.slice A0_1 l0_1.length c0_1)) (ds := []) #[false, false, false, false, false, false, false, false, false, false, false] (by kernel_rfl) rfl rfl ⟨(blk_cell BK282.out 0).trans rfl, (blk_cell BK282.out 1).trans rfl⟩ (fun hHeld => ?_); refine with_tabW spec_ReplyTo.tab10 spec_ReplyTo.bits10 (fun HT_ HW_ => ?_)
            generalize wc.drew = w41 at BK282 HB hHeld ⊢
            refine pure_ (i := 1) (N := some 49) (v := ?_) (a' := ?_) #[false, true, false, false, false, false, false, false, false, false, false] rfl rfl (any_of HT_.out (by kernel_rfl)) (fun _ _ _ h => h) (Or.inl ⟨by rfl, ?_⟩) ?_ ?_
            rotate_left; (· (intro w'; go_simp; with_reducible rfl)); rotate_left; (· (simp only [Act.put, List.setIfInBounds_toArray, List.set_cons_zero, List.set_cons_succ, i64_w, i32_w]; rfl))
            refine pure_ (i := 2) (N := some 50) (v := ?_) (a' := ?_) #[false, true, true, false, false, false, false, false, false, false, false] rfl rfl (any_of HT_.out (by kernel_rfl)) (fun _ _ _ h => h) (Or.inl ⟨by rfl, ?_⟩) ?_ ?_
            rotate_left; (· (intro w'; go_simp; with_reducible rfl)); rotate_left; (· (simp only [Act.put, List.setIfInBounds_toArray, List.set_cons_zero, List.set_cons_succ, i64_w, i32_w]; rfl))
            refine pure_ (i := 3) (N := some 51) (v := ?_) (a' := ?_) #[false, true, true, true, false, false, false, false, false, false, false] rfl rfl (any_of HT_.out (by kernel_rfl)) (fun _ _ _ h => h) (Or.inl ⟨by rfl, ?_⟩) ?_ ?_
            rotate_left; (· (intro w'; go_simp; with_reducible rfl)); rotate_left; (· (simp only [Act.put, List.setIfInBounds_toArray, List.set_cons_zero, List.set_cons_succ, i64_w, i32_w]; rfl))
            refine pure_ (i := 4) (N := some 52) (v := ?_) (a' := ?_) #[false, true, true, true, true, false, false, false, false, false, false] rfl rfl (any_of HT_.out (by kernel_rfl)) (fun _ _ _ h => h) (Or.inl ⟨by rfl, ?_⟩) ?_ ?_
            rotate_left; (· (intro w'; go_simp; with_reducible rfl)); rotate_left; (· (simp only [Act.put, List.setIfInBounds_toArray, List.set_cons_zero, List.set_cons_succ, i64_w, i32_w]; rfl))
            refine pure_ (i := 5) (N := some 53) (v := ?_) (a' := ?_) #[false, true, true, true, true, true, false, false, false, false, false] rfl rfl (any_of HT_.out (by kernel_rfl)) (fun _ _ _ h => h) (Or.inl ⟨by rfl, ?_⟩) ?_ ?_
            rotate_left; (· (intro w'; go_simp; with_reducible rfl)); rotate_left; (· (simp only [Act.put, List.setIfInBounds_toArray, List.set_cons_zero, List.set_cons_succ, i64_w, i32_w]; rfl))
            refine pure_ (i := 6) (N := some 54) (v := ?_) (a' := ?_) #[false, true, true, true, true, true, true, false, false, false, false] rfl rfl (any_of HT_.out (by kernel_rfl)) (fun _ _ _ h => h) (Or.inl ⟨by rfl, ?_⟩) ?_ ?_
            rotate_left; (· (intro w'; go_simp; with_reducible rfl)); rotate_left; (· (simp only [Act.put, List.setIfInBounds_toArray, List.set_cons_zero, List.set_cons_succ, i64_w, i32_w]; rfl))
            refine take_ (i := 0) (N := some 48) (v := ?_) (a' := ?_) #[true, true, true, true, true, true, true, false, false, false, false] rfl rfl (take_ofW HT_.out HW_.out (by kernel_rfl)) (fun _ _ _ h => h) (Or.inl ⟨by rfl, ?_⟩) hHeld ?_ ?_
            rotate_left; (· (rintro w' ⟨s0, s1⟩; go_simp; with_reducible rfl)); rotate_left; (· (simp only [Act.put, List.setIfInBounds_toArray, List.set_cons_zero, List.set_cons_succ, i64_w, i32_w]; rfl))
            refine take_ (i := 7) (N := some 55) (v := ?_) (a' := ?_) #[true, true, true, true, true, true, true, true, false, false, false] rfl rfl (take_ofW HT_.out HW_.out (by kernel_rfl)) (fun _ _ _ h => h) (Or.inl ⟨by rfl, ?_⟩) hHeld ?_ ?_
            rotate_left; (· (rintro w' ⟨s0, s1⟩; go_simp; with_reducible rfl)); rotate_left; (· (simp only [Act.put, List.setIfInBounds_toArray, List.set_cons_zero, List.set_cons_succ, i64_w, i32_w]; rfl))
            refine one_ (i := 8) (N := some 56) #[true, true, true, true, true, true, true, true, true, false, false] rfl rfl (one_of HT_.out (by kernel_rfl)) (by decide) (fun K hK => ?_)
            refine goes_ Tryd.func40 (by kernel_rfl) rfl #[.agg #[.int .i64 a0_0, .slice A0_1 l0_1.length c0_1]] (by rfl) rfl rfl (by (try simp only [List.map_toArray, List.map_cons, List.map_nil]); first | done | rfl | (simp only [List.length_drop, List.length_take]; rfl)) ?_
            with_reducible refine (spec_l10Known.calls a0_0 _ _ l0_1 t289 _ ?side1 ?side2 A32.out).mono ?_
            (case side1 => repeat (first | exact (Kd.C_below HR0_1.out HB.out) | (with_reducible refine Kd.C_alloc ?_ _) | (with_reducible refine Kd.C_drewN ?_ _) | (with_reducible refine Kd.C_drew ?_)))
            (case side2 => exact HC0_1.out)
            rintro e w42 ⟨v290, rfl, ho0, hb⟩
            refine ⟨_, rfl, ?_⟩
            have n0_ := Aside0.mk (Kd.R_lower ho0 (below_size (by repeat (first | (with_reducible first | exact HB.out | apply below_alloc | apply pw_below_drewN | apply below_drew1 | refine below_set ?_ GE282.out) | exact HB.out))))
            have n1_ := Aside0.mk (blk_below (g := gb282) (o := .cells #[.int .i64 a0_0, .slice A0_1 l0_1.length c0_1] 28 (0, 0)) (by (with_reducible repeat (first | refine blk_drewN ?_ _ | refine blk_drew ?_ | refine blk_alloc ?_ _)); exact BK282.out) hb)
            have n2_ := Aside0.mk (below_step (by repeat (first | (with_reducible first | exact HB.out | apply below_alloc | apply pw_below_drewN | apply below_drew1 | refine below_set ?_ GE282.out) | exact HB.out)) hb)
            clear BK282
            clear HB
            have HO291 := n0_
            have BK282 := n1_
            have HB := n2_
            clear n0_ n1_ n2_
            (try clear hb)
            (try clear hb2)
            (try clear hk)
            (try clear hi)
            (try clear ho0)
            obtain ⟨Ao43, co43, eo43⟩ := Kd.R_slice HO291.out
            (first | subst eo43 | (injection eo43 with f1_ f2_ f3_; have f4_ := f1_.symm; have f5_ := f3_.symm; clear f1_ f2_ f3_; subst f4_; subst f5_))
            refine hK.out _ _ ⟨(blk_cell BK282.out 0).trans rfl, (blk_cell BK282.out 1).trans rfl⟩ (fun hHeld => ?_)
            clear hK K
            refine norm_ (a' := ?_) ?_ ?_
            rotate_left
            ·show Act.put _ (some 56) _ = _
             simp only [Act.put, List.setIfInBounds_toArray, List.set_cons_zero, List.set_cons_succ, i64_w, i32_w]
             rfl
            refine one_ (i := 9) (N := some 57) #[true, true, true, true, true, true, true, true, true, true, false] rfl rfl (one_of HT_.out (by kernel_rfl)) (by decide) (fun K hK => ?_)
            refine goes_ Tryd.func43 (by kernel_rfl) rfl #[.agg #[.int .i64 a0_0, .slice A0_1 l0_1.length c0_1], .int .i64 t285, .int .i64 (Go.bits .or .i64 t286 (ji31)), .int .i64 1, .slice Ao43 t289.length co43] (by rfl) rfl rfl (by (try simp only [List.map_toArray, List.map_cons, List.map_nil]); first | done | (simp only [hji31]; rfl) | rfl | (simp only [List.length_drop, List.length_take]; rfl)) ?_
            with_reducible refine (spec_l10Moves.calls kj15 a0_0 _ _ l0_1 t285 (Go.bits .or .i64 t286 (ji31)) 1 (fun k_ => some k_ = (.slice Ao43 t289.length co43 : Value).ownBlock) (.slice Ao43 t289.length co43) t289 t292 t295 w _ ?side1 ?side2 ?side3 ?side4 A33.out).mono ?_
            (case side1 => repeat (first | (with_reducible first | exact HB.out | apply below_alloc | apply pw_below_drewN | apply below_drew1 | refine below_set ?_ GE282.out) | exact HB.out))
            (case side2 => exact Kd.C_kept_came (Kd.heap_slice 2 (Kd.heap_int .i64)) HR0_1.out (by repeat (first | (with_reducible first | exact HB.out | apply below_alloc | apply pw_below_drewN | apply below_drew1 | refine below_set ?_ GE282.out) | exact HB.out)) (fun k_ hs_ => (fun e_ => Kd.R_base HO291.out k_ e_.symm) hs_))
            (case side3 => exact HC0_1.out)
            (case side4 => exact Kd.R_tight rfl HO291.out)
            rintro e w44 ⟨v293, rfl, ho0, hy0, hb, hkp⟩
            refine ⟨_, rfl, ?_⟩
            have n0_ := Aside0.mk (blk_kept (by (with_reducible repeat (first | refine blk_drewN ?_ _ | refine blk_drew ?_ | refine blk_alloc ?_ _)); exact BK282.out) hkp (fun hs_ => (fun e_ => (Kd.R_ne HO291.out BK282.out (by decide)) e_) hs_))
            have n1_ := Aside0.mk (Kd.R_reok rfl hy0 (fun k_ e_ => HO291.out.1 k_ e_))
            have n2_ := Aside0.mk (Kd.R_mono (ok' := fun k_ => some k_ ≠ (.slice Ao43 t289.length co43 : Value).ownBlock) ho0 (fun k_ hk_ => hk_.2))
            have n3_ := Aside0.mk (hb)
            clear BK282
            clear HO291
            clear HB
            have BK282 := n0_
            have HO291 := n1_
            have HO294 := n2_
            have HB := n3_
            clear n0_ n1_ n2_ n3_
            (try clear hb)
            (try clear hkp)
            (try clear ho0)
            (try clear hy0)
            refine hK.out _ _ ⟨(blk_cell BK282.out 0).trans rfl, (blk_cell BK282.out 1).trans rfl⟩ (fun hHeld => ?_)
            clear hK K
            refine norm_ (a' := ?_) ?_ ?_
            rotate_left
            ·show Act.put _ (some 57) _ = _
             simp only [Act.put, List.setIfInBounds_toArray, List.set_cons_zero, List.set_cons_succ, i64_w, i32_w]
             rfl
            refine pure_ (i := 10) (N := some 12) (v := ?_) (a' := ?_) #[true, true, true, true, true, true, true, true, true, true, true] rfl rfl (any_of HT_.out (by kernel_rfl)) (fun _ _ _ h => h) (Or.inl ⟨by rfl, ?_⟩) ?_ ?_
            rotate_left; (· (intro w'; go_simp; with_reducible rfl)); rotate_left; (· (simp only [Act.put, List.setIfInBounds_toArray, List.set_cons_zero, List.set_cons_succ, i64_w, i32_w]; rfl))
            refine done_ (done_of HT_.out (by kernel_rfl)) ?_
            obtain ⟨Ao45, co45, eo45⟩ := Kd.R_slice HO294.out
            subst eo45
            have p296 : 0 ≤ (0 : Int) := (by omega)
            have q296 : 0 < (t292.length : Int) := oda
            obtain ⟨ad296, e296, hx296_0⟩ := Kd.at_int (Kd.R_reads' HO294.out).2.2 0 p296 q296
            cases e296
            have qi296 : (0 < t292.length) = True := eq_true (by omega)
            (try rw [show ((0 : Int)).toNat = 0 from rfl] at hx296_0)
            (try rw [Addr.add_zero'] at hx296_0)
            replace p296 := eq_true p296
            replace q296 := eq_true q296
            try go_wp2
            go_ret2
            exact ⟨by first | rfl | (simp [errW_none, errW_some] <;> rfl) | (simp only [← hji29, ← hji31]; first | rfl | (simp [errW_none, errW_some] <;> rfl)) | (simp [*, errW_none, errW_some] <;> rfl), by repeat (first | (with_reducible first | exact HB.out | apply below_alloc | apply pw_below_drewN | apply below_drew1 | refine below_set ?_ GE282.out) | exact HB.out)⟩
           ·rw [if_neg c40] at H
            exact absurd H (by simp)
         ·rw [if_neg c30] at H
          exact absurd H (by simp)
     ·rw [if_neg c14] at H
      have c14b0 : (x8_11 == 0) = false := beq_eq_false_iff_ne.mpr c14
      have c14b1 : (x8_11 != 0) = true := bne_iff_ne.mpr c14
      simp only [Option.some.injEq, Prod.mk.injEq] at H
      obtain ⟨rfl, rfl⟩ := H
      go_wp2
      go_ret2
      exact ⟨by first | rfl | (simp [errW_none, errW_some] <;> rfl) | (simp [*, errW_none, errW_some] <;> rfl), by repeat (first | (with_reducible first | exact HB.out | apply below_alloc | apply pw_below_drewN | apply below_drew1 | refine below_set ?_ GE282.out) | exact HB.out)⟩
/-! ### impl_first: function 44 -/
def impl_first.l0 : Nat → List (S71) → Int → Int → Option (Int)
 | 0, _, _, _ => none
 | k + 1, x5, x6, x7 => if x7 < x6 then (if 0 ≤ x7 then (if x7 < (x5.length : Int) then (if ((rd_T71 x5 x7).f0 = true) then (impl_first.l0 k x5 x6 (wrap64 (x7 + 1))) else (some ((rd_T71 x5 x7).f1))) else (none)) else (none)) else (some 0)
def impl_first.f (k : Nat) (l0 : List (S71)) : Option (Int) := impl_first.l0 k l0 (l0.length : Int) 0
set_option maxHeartbeats 8000000 in
set_option maxRecDepth 100000 in
theorem impl_first.calls (k : Nat) (A0 : Option Addr) (c0 : Nat) (l0 : List (S71)) (r : Int) (w : World) (hr0 : Kd.C k71 w A0 l0.length l0) (hc0 : l0.length ≤ c0) (h : impl_first.f k l0 = some r) :
  Calls Tryd.prog 44 #[.slice A0 l0.length c0] w fun e w' => e = .returned (.int .i64 r) ∧ Below w.heap.size w w' := by
 have hu71 := Tryd.underlying71
 have HR0 := Aside0.mk hr0
 have HC0 := Aside0.mk hc0
 clear hr0 hc0
 have HB := Aside0.mk (Below.refl w.heap.size w)
 have H : (impl_first.l0 k l0 (l0.length : Int) 0) = some r := h
 clear h
 have H' := Aside0.mk H
 clear H
 go_enter Tryd.func44, Tryd.ntmps44
 go_wp2
 go_loopg [7] k (fun kq v7 w' => ∃ (x7_1 : Int), v7 = .int .i64 x7_1 ∧ Aside0 (impl_first.l0 kq l0 (l0.length : Int) x7_1 = some r) ∧ Aside0 (kq ≤ k) ∧ Aside0 (Below w.heap.size w w'))
 case atStart => exact ⟨(0), (by first | rfl | (simp; done) | (simp [*]; done)), H', ⟨Nat.le_refl _⟩, ⟨by repeat (first | (with_reducible first | exact HB.out | apply below_alloc | apply pw_below_drewN | apply below_drew1) | exact HB.out)⟩⟩
 case round =>
  clear H'
  obtain ⟨x7_1, rfl, HA, HK1, HB⟩ := hrel
  cases gk with
  | zero => exact absurd HA.out (by simp [impl_first.l0])
  | succ k1 =>
   have H := HA.out
   clear HA
   simp only [impl_first.l0] at H
   by_cases c2 : x7_1 < (l0.length : Int)
   ·rw [if_pos c2] at H
    have c2b0 : decide (x7_1 < (l0.length : Int)) = true := decide_eq_true c2
    clear c2
    by_cases c3 : 0 ≤ x7_1
    ·rw [if_pos c3] at H
     have c3b0 : decide (0 ≤ x7_1) = true := decide_eq_true c3
     clear c3
     by_cases c4 : x7_1 < (l0.length : Int)
     ·rw [if_pos c4] at H
      have c4b0 : decide (x7_1 < (l0.length : Int)) = true := decide_eq_true c4
      clear c4
      obtain ⟨bq5, hbq5⟩ : ∃ b_ : Bool, b_ = ((rd_T71 l0 x7_1).f0) := ⟨_, rfl⟩
      replace H : (if (bq5 = true) then (impl_first.l0 k1 l0 (l0.length : Int) (wrap64 (x7_1 + 1))) else (some ((rd_T71 l0 x7_1).f1))) = some r := by rw [← hbq5] at H; exact H
      have Nbq5 := Aside0.mk hbq5
      clear hbq5
      by_cases c6 : (bq5 = true)
      ·subst c6
       have H1 : (impl_first.l0 k1 l0 (l0.length : Int) (wrap64 (x7_1 + 1))) = some r := by rw [if_pos rfl] at H; exact H
       clear H
       have H := H1
       clear H1
       have H' := Aside0.mk H
       clear H
       have p166 : 0 ≤ (x7_1 : Int) := oda
       have q166 : x7_1 < (l0.length : Int) := oda
       obtain ⟨ad166, e166, hx166_0, hx166_1⟩ := at_T71 HR0.out x7_1 p166 q166
       (try rw [← Nbq5.out] at hx166_0)
       cases e166
       replace hx166_0 := (HB.out.cell (World.block_lt_of_cell? w _ hx166_0)).trans hx166_0
       replace hx166_1 := (HB.out.cell (World.block_lt_of_cell? w _ hx166_1)).trans hx166_1
       replace p166 := eq_true p166
       replace q166 := eq_true q166
       go_wp2_with (first | ((with_reducible refine gate_dst (N := 4) rfl ?_); refine box_event ?hg (N := 4) ?hd (cs := #[.bool false, .int .i64 0]) (t := 71) ?hr ?_; (case hd => rfl); (case hg => rfl); (case hr => first | (go_simp; done) | (go_simp; rfl)); intro gb167 hg w7 hbox hb; have n0_ := Aside0.mk (below_step hb_ hb); have n1_ := Aside0.mk (hbox); have n2_ := Aside0.mk ((by rw [hg]; exact (below_size hb_) : w.heap.size ≤ gb167)); have n3_ := Aside0.mk ((by rw [hg]; exact (below_size hb_) : w.heap.size ≤ gb167)); clear HB; have HB := n0_; have BK167 := n1_; have GW167 := n2_; have GE167 := n3_; clear n0_ n1_ n2_ n3_; clear hb hbox hg; have hcz8_0 : w7.cell? ⟨gb167, 0, none⟩ = some (.bool false) := (blk_cell BK167.out 0).trans rfl; have hcz8_1 : w7.cell? ⟨gb167, 1, none⟩ = some (.int .i64 0) := (blk_cell BK167.out 1).trans rfl; have hfz8_0 := blk_frozen BK167.out 0; have hfz8_1 := blk_frozen BK167.out 1))
       go_roundg k1
       case measure => have := HK1.out; omega
       case rel => exact ⟨(wrap64 (x7_1 + 1)), (by first | rfl | (simp; done) | (simp [*]; done)), H', ⟨by have := HK1.out; omega⟩, ⟨by repeat (first | (with_reducible first | exact HB.out | apply below_alloc | apply pw_below_drewN | apply below_drew1 | refine below_set ?_ GE167.out) | exact HB.out)⟩⟩
      ·replace c6 := Bool.eq_false_iff.mpr c6
       subst c6
       have H1 : (some ((rd_T71 l0 x7_1).f1)) = some r := by rw [if_neg (show ¬ (false = true) by decide)] at H; exact H
       clear H
       have H := H1
       clear H1
       obtain rfl := Option.some.inj H
       have p166 : 0 ≤ (x7_1 : Int) := oda
       have q166 : x7_1 < (l0.length : Int) := oda
       obtain ⟨ad166, e166, hx166_0, hx166_1⟩ := at_T71 HR0.out x7_1 p166 q166
       (try rw [← Nbq5.out] at hx166_0)
       cases e166
       replace hx166_0 := (HB.out.cell (World.block_lt_of_cell? w _ hx166_0)).trans hx166_0
       replace hx166_1 := (HB.out.cell (World.block_lt_of_cell? w _ hx166_1)).trans hx166_1
       replace p166 := eq_true p166
       replace q166 := eq_true q166
       go_wp2_with (first | ((with_reducible refine gate_dst (N := 4) rfl ?_); refine box_event ?hg (N := 4) ?hd (cs := #[.bool false, .int .i64 0]) (t := 71) ?hr ?_; (case hd => rfl); (case hg => rfl); (case hr => first | (go_simp; done) | (go_simp; rfl)); intro gb167 hg w9 hbox hb; have n0_ := Aside0.mk (below_step hb_ hb); have n1_ := Aside0.mk (hbox); have n2_ := Aside0.mk ((by rw [hg]; exact (below_size hb_) : w.heap.size ≤ gb167)); have n3_ := Aside0.mk ((by rw [hg]; exact (below_size hb_) : w.heap.size ≤ gb167)); clear HB; have HB := n0_; have BK167 := n1_; have GW167 := n2_; have GE167 := n3_; clear n0_ n1_ n2_ n3_; clear hb hbox hg; have hcz10_0 : w9.cell? ⟨gb167, 0, none⟩ = some (.bool false) := (blk_cell BK167.out 0).trans rfl; have hcz10_1 : w9.cell? ⟨gb167, 1, none⟩ = some (.int .i64 0) := (blk_cell BK167.out 1).trans rfl; have hfz10_0 := blk_frozen BK167.out 0; have hfz10_1 := blk_frozen BK167.out 1))
       go_ret
       exact ⟨by first | rfl | (simp [errW_none, errW_some] <;> rfl) | (simp [*, errW_none, errW_some] <;> rfl), by repeat (first | (with_reducible first | exact HB.out | apply below_alloc | apply pw_below_drewN | apply below_drew1 | refine below_set ?_ GE167.out) | exact HB.out)⟩
     ·rw [if_neg c4] at H
      exact absurd H (by simp)
    ·rw [if_neg c3] at H
     exact absurd H (by simp)
   ·rw [if_neg c2] at H
    have c2b0 : decide (x7_1 < (l0.length : Int)) = false := decide_eq_false c2
    clear c2
    obtain rfl := Option.some.inj H
    go_wp2
    go_ret
    exact ⟨by first | rfl | (simp [errW_none, errW_some] <;> rfl) | (simp [*, errW_none, errW_some] <;> rfl), by repeat (first | (with_reducible first | exact HB.out | apply below_alloc | apply pw_below_drewN | apply below_drew1) | exact HB.out)⟩
def Tryd.lays160_ren : Go.Shelf.Ren := ⟨fun | 160 => 59 | 232 => 77 | 231 => 76 | 227 => 78 | 234 => 80 | 233 => 79 | 236 => 82 | 235 => 81 | 228 => 91 | 271 => 94 | 151 => 93 | 197 => 92 | 120 => 99 | 152 => 98 | 260 => 97 | 137 => 101 | 119 => 102 | 224 => 103 | 225 => 104 | 217 => 105 | 266 => 106 | n => n, fun | 9 => 9 | 4 => 4 | 3 => 3 | 5 => 5 | 117 => 102 | 116 => 101 | 0 => 0 | 124 => 105 | 21 => 21 | 105 => 115 | 46 => 81 | 119 => 121 | 139 => 124 | 138 => 123 | n => n, fun | 3 => 0 | 4 => 1 | n => n⟩
theorem Tryd.lays160 : Go.Proofs.Lays.n160 Tryd.prog Tryd.lays160_ren := {
  mixed := by kernel_rfl
  f119 := Tryd.func102.trans (congrArg some (by kernel_rfl))
  f120 := Tryd.func99.trans (congrArg some (by kernel_rfl))
  f137 := Tryd.func101.trans (congrArg some (by kernel_rfl))
  f151 := Tryd.func93.trans (congrArg some (by kernel_rfl))
  f152 := Tryd.func98.trans (congrArg some (by kernel_rfl))
  f160 := Tryd.func59.trans (congrArg some (by kernel_rfl))
  f197 := Tryd.func92.trans (congrArg some (by kernel_rfl))
  f217 := Tryd.func105.trans (congrArg some (by kernel_rfl))
  f224 := Tryd.func103.trans (congrArg some (by kernel_rfl))
  f225 := Tryd.func104.trans (congrArg some (by kernel_rfl))
  f227 := Tryd.func78.trans (congrArg some (by kernel_rfl))
  f228 := Tryd.func91.trans (congrArg some (by kernel_rfl))
  f231 := Tryd.func76.trans (congrArg some (by kernel_rfl))
  f232 := Tryd.func77.trans (congrArg some (by kernel_rfl))
  f233 := Tryd.func79.trans (congrArg some (by kernel_rfl))
  f234 := Tryd.func80.trans (congrArg some (by kernel_rfl))
  f235 := Tryd.func81.trans (congrArg some (by kernel_rfl))
  f236 := Tryd.func82.trans (congrArg some (by kernel_rfl))
  f260 := Tryd.func97.trans (congrArg some (by kernel_rfl))
  f266 := Tryd.func106.trans (congrArg some (by kernel_rfl))
  f271 := Tryd.func94.trans (congrArg some (by kernel_rfl))
  t0 := Tryd.underlying0
  a0 := Tryd.isAgg0
  z0 := Tryd.sizeOf0
  v0 := Tryd.zeroValue0
  t3 := Tryd.underlying3
  a3 := Tryd.isAgg3
  z3 := Tryd.sizeOf3
  v3 := Tryd.zeroValue3
  t4 := Tryd.underlying4
  a4 := Tryd.isAgg4
  z4 := Tryd.sizeOf4
  v4 := Tryd.zeroValue4
  t5 := Tryd.underlying5
  a5 := Tryd.isAgg5
  z5 := Tryd.sizeOf5
  v5 := Tryd.zeroValue5
  t9 := Tryd.underlying9
  a9 := Tryd.isAgg9
  z9 := Tryd.sizeOf9
  v9 := Tryd.zeroValue9
  t21 := Tryd.underlying21
  a21 := Tryd.isAgg21
  z21 := Tryd.sizeOf21
  v21 := Tryd.zeroValue21
  t46 := Tryd.underlying81
  a46 := Tryd.isAgg81
  z46 := Tryd.sizeOf81
  v46 := Tryd.zeroValue81
  t105 := Tryd.underlying115
  a105 := Tryd.isAgg115
  z105 := Tryd.sizeOf115
  v105 := Tryd.zeroValue115
  t116 := Tryd.underlying101
  a116 := Tryd.isAgg101
  z116 := Tryd.sizeOf101
  t117 := Tryd.underlying102
  a117 := Tryd.isAgg102
  z117 := Tryd.sizeOf102
  v117 := Tryd.zeroValue102
  t119 := Tryd.underlying121
  a119 := Tryd.isAgg121
  z119 := Tryd.sizeOf121
  t124 := Tryd.underlying105
  a124 := Tryd.isAgg105
  z124 := Tryd.sizeOf105
  v124 := Tryd.zeroValue105
  t138 := Tryd.underlying123
  a138 := Tryd.isAgg123
  z138 := Tryd.sizeOf123
  v138 := Tryd.zeroValue123
  t139 := Tryd.underlying124
  a139 := Tryd.isAgg124
  z139 := Tryd.sizeOf124
  v139 := Tryd.zeroValue124
  g3 := by kernel_rfl
  g4 := by kernel_rfl }
/-! ### strings_Trim: function 59 -/
-- EXTERNAL: by hand
def trimV (s c : ByteArray) : ByteArray := ⟨(Lib.trimS s.data.toList c.data.toList).toArray⟩
def strings_Trim.f (a0 : ByteArray) (a1 : ByteArray) : Option ByteArray := if a0.size ≤ 9223372036854775807 ∧ a1.size < 4294967281 ∧ (a1.data.toList.all fun b => decide (b.toNat < 128)) = true then some (trimV a0 a1) else none
theorem strings_Trim.calls (a0 : ByteArray) (a1 : ByteArray) (r : ByteArray) (w : World) (h : strings_Trim.f a0 a1 = some r) :
    Calls Tryd.prog 59 #[.string a0, .string a1] w fun e w' => e = .returned (.string r) ∧ Below w.heap.size w w' := by
  unfold strings_Trim.f at h
  by_cases hc : a0.size ≤ 9223372036854775807 ∧ a1.size < 4294967281 ∧ (a1.data.toList.all fun b => decide (b.toNat < 128)) = true
  · rw [if_pos hc] at h
    obtain rfl := Option.some.inj h
    have hcon := Any.strings_Trim_laid Tryd.lays160 (by kernel_rfl) a0 a1 w hc.1 hc.2.1 (fun j b hj => by
      have := List.all_eq_true.1 hc.2.2 b (List.mem_of_getElem? hj)
      simpa using this)
    exact hcon
  · rw [if_neg hc] at h; cases h
/-- What is asked of a function value handed on: at every x of the kind d that q lets by, in every world in which all that lay in w lies unturned, it answers p x and turns nothing that lay. -/
def PredK {α : Type} (P : Program) (g : Nat) (lb : Array Value) (d : Kd α) (q : α → Prop) (p : α → Bool) (w : World) : Prop :=
  ∀ (W : World) (x : α) (v : Value), q x → d.K W x [v] → Below w.heap.size w W → Calls P g (#[v] ++ lb) W fun e w' => e = .returned (.bool (p x)) ∧ Below W.heap.size W w'
theorem PredK.later {α : Type} {P : Program} {g : Nat} {lb : Array Value} {d : Kd α} {q : α → Prop} {p : α → Bool} {w W : World} (h : PredK P g lb d q p w) (hb : Below w.heap.size w W) : PredK P g lb d q p W :=
  fun W' x v hq hK hb' => h W' x v hq hK (hb.trans (hb'.mono hb.size))
/-- One cell of a row that is read. -/
theorem Kd.C_one {α : Type} {d : Kd α} {w : World} {A : Option Addr} {n : Nat} {xs : List α} (h1 : d.sz = 1) (h : d.C w A n xs) (i : Nat) (hi : i < n) (hl : n = xs.length) :
    ∃ ad v, A = some ad ∧ w.cell? (ad.add i) = some v ∧ d.K w (xs[i]'(by omega)) [v] := by
  have hi' : i < xs.length := by omega
  obtain ⟨ad, c, hA, hc, hK, hcell⟩ := Kd.C_get h (xs[i]'hi') (i : Int) (by omega) (by omega)
  rw [h1] at hc
  match c, hc with
  | [v], _ =>
    refine ⟨ad, v, hA, ?_, ?_⟩
    · have := hcell 0 v rfl
      rw [h1] at this
      simpa using this
    · have e : xs.getD (i : Int).toNat (xs[i]'hi') = xs[i]'hi' := by simp [List.getD_eq_getElem?_getD, List.getElem?_eq_getElem hi']
      rwa [e] at hK
/-- The place of the first hit from i on, or -1. -/
def idxK {α : Type} (p : α → Bool) : List α → Nat → Int
  | [], _ => -1
  | x :: r, i => if p x then (i : Int) else idxK p r (i + 1)
theorem idxK_ge {α : Type} (p : α → Bool) : ∀ (l : List α) (i : Nat), (0 ≤ idxK p l i) ↔ l.any p = true
  | [], i => by simp [idxK]
  | x :: r, i => by
    have ih := idxK_ge p r (i + 1)
    unfold idxK
    cases h : p x
    · simpa [h] using ih
    · simp [h]
theorem idxK_drop {α : Type} (p : α → Bool) (l : List α) (i : Nat) (h : i < l.length) : idxK p (l.drop i) i = if p l[i] then (i : Int) else idxK p (l.drop (i + 1)) (i + 1) := by
  rw [List.drop_eq_getElem_cons h]; rfl
theorem idxK_any {α : Type} (p : α → Bool) (l : List α) : decide (0 ≤ idxK p l 0) = l.any p := by
  have := idxK_ge p l 0
  rw [Bool.eq_iff_iff, decide_eq_true_iff]
  exact this
/-- The same of a function value which turns nothing at all, and makes nothing. -/
def PredD {α : Type} (P : Program) (g : Nat) (lb : Array Value) (d : Kd α) (q : α → Prop) (p : α → Bool) (w : World) : Prop :=
  ∀ (W : World) (x : α) (v : Value), q x → d.K W x [v] → Below w.heap.size w W → Calls P g (#[v] ++ lb) W fun e w' => e = .returned (.bool (p x)) ∧ Drawn0 W w'
theorem PredD.toK {α : Type} {P : Program} {g : Nat} {lb : Array Value} {d : Kd α} {q : α → Prop} {p : α → Bool} {w : World} (h : PredD P g lb d q p w) : PredK P g lb d q p w :=
  fun W x v hq hK hb => (h W x v hq hK hb).mono fun _ _ hh => ⟨hh.1, hh.2.below⟩/-! ### slices_IndexFunc_int64_int64_95: function 95 -/
-- EXTERNAL: by hand
set_option maxHeartbeats 4000000 in
set_option maxRecDepth 100000 in
theorem slices_IndexFunc_int64_int64_95.calls (g : Nat) (lb : Array Value) (q : (List Int) → Prop) (p : (List Int) → Bool) (eg : ∀ args w, (callFunc g args).run Tryd.prog w = .ok (.enter g args) w)
    (A0 : Option Addr) (c0 : Nat) (l0 : List (List Int)) (w : World) (hp : PredK Tryd.prog g lb (Kd.slice 2 (Kd.int .i64)) q p w) (hq : ∀ x ∈ l0, q x) (hr0 : Kd.C (Kd.slice 2 (Kd.int .i64)) w A0 l0.length l0) (hm : l0.length ≤ 9223372036854775807) :
    Calls Tryd.prog 95 #[.slice A0 l0.length c0, .func (.func g) #[] lb] w fun e w' => e = .returned (.int .i64 (idxK p l0 0)) ∧ Below w.heap.size w w' := by
  have HP := Aside0.mk hp
  have HR := Aside0.mk hr0
  have HQ := Aside0.mk hq
  clear hp hr0 hq
  go_enter Tryd.func95, Tryd.ntmps95
  go_wp2
  go_loopg [5, 8] l0.length (fun gg _ s8 wr => ∃ kk : Nat, kk ≤ l0.length ∧ l0.length - kk ≤ gg ∧ s8 = .int .i64 kk ∧ Aside0 (idxK p (l0.drop kk) kk = idxK p l0 0) ∧ Aside0 (Below w.heap.size w wr))
  case atStart => exact ⟨0, Nat.zero_le _, by omega, rfl, ⟨rfl⟩, ⟨Below.refl _ _⟩⟩
  case round =>
    obtain ⟨kk, hkk, hg, rfl, A, HB⟩ := hrel
    by_cases hlt : kk < l0.length
    · have hltz : (kk : Int) < (l0.length : Int) := by omega
      obtain ⟨ad, v, rfl, hcell, hK⟩ := Kd.C_one rfl (Kd.C_below HR.out HB.out) kk hlt rfl
      have hcall := HP.out wr _ v (HQ.out _ (List.getElem_mem hlt)) hK HB.out
      have HK1 := (Kd.slice 2 (Kd.int .i64)).K_one hK v (by simp)
      have E := Aside0.mk (idxK_drop p l0 kk hlt)
      generalize p l0[kk] = b at hcall E
      clear hK
      cases b with
      | true =>
        go_wp2_with (go_at_fn g; refine hcall.mono ?_; rintro e w' ⟨rfl, hb⟩)
        go_ret
        refine ⟨?_, below_then HB.out HB.out.size hb⟩
        rw [← A.out, E.out]; rfl
      | false =>
        go_wp2_with (go_at_fn g; refine hcall.mono ?_; rintro e w' ⟨rfl, hb⟩)
        go_roundg (l0.length - (kk + 1))
        case measure => omega
        case rel => exact ⟨kk + 1, by omega, by omega, by go_num, ⟨by rw [← A.out, E.out]; rfl⟩, ⟨below_then HB.out HB.out.size hb⟩⟩
    · have hltz : ¬ (kk : Int) < (l0.length : Int) := by omega
      have : kk = l0.length := by omega
      subst this
      go_wp2
      go_ret
      refine ⟨?_, HB.out⟩
      rw [← A.out]; simp [idxK]/-! ### slices_ContainsFunc_int64_int64_83: function 83 -/
-- EXTERNAL: by hand
set_option maxHeartbeats 1000000 in
theorem slices_ContainsFunc_int64_int64_83.calls (g : Nat) (lb : Array Value) (q : (List Int) → Prop) (p : (List Int) → Bool) (eg : ∀ args w, (callFunc g args).run Tryd.prog w = .ok (.enter g args) w)
    (A0 : Option Addr) (c0 : Nat) (l0 : List (List Int)) (w : World) (hp : PredK Tryd.prog g lb (Kd.slice 2 (Kd.int .i64)) q p w) (hq : ∀ x ∈ l0, q x) (hr0 : Kd.C (Kd.slice 2 (Kd.int .i64)) w A0 l0.length l0) (hm : l0.length ≤ 9223372036854775807) :
    Calls Tryd.prog 83 #[.slice A0 l0.length c0, .func (.func g) #[] lb] w fun e w' => e = .returned (.bool (l0.any p)) ∧ Below w.heap.size w w' := by
  rw [← idxK_any]
  have HI := slices_IndexFunc_int64_int64_95.calls g lb q p eg A0 c0 l0 w hp hq hr0 hm
  clear hp hq hr0
  generalize idxK p l0 0 = r at HI ⊢
  go_enter Tryd.func83, Tryd.ntmps83
  go_wp2_with (go_at_call 95; refine HI.mono ?_; rintro e w' ⟨rfl, hb⟩)
  go_ret
  exact ⟨rfl, hb⟩/-! ### cmp_isNaN_int64: function 100 -/
def cmp_isNaN_int64.f (a0 : Int) : Option (Bool) := some (a0 != a0)
set_option maxHeartbeats 8000000 in
set_option maxRecDepth 100000 in
theorem cmp_isNaN_int64.calls (a0 : Int) (r : Bool) (w : World) (h : cmp_isNaN_int64.f a0 = some r) :
  Calls Tryd.prog 100 #[.int .i64 a0] w fun e w' => e = .returned (.bool r) ∧ Drawn0 w w' := by
 have H : (some (a0 != a0)) = some r := h
 clear h
 obtain rfl := Option.some.inj H
 go_enter Tryd.func100, Tryd.ntmps100
 go_wp2
 go_ret
 exact ⟨by first | rfl | (simp; done) | (simp [*]; done), by repeat (first | exact Drawn0.refl _ | apply Drawn0.step)⟩
/-! ### cmp_Compare_int64: function 96 -/
def cmp_Compare_int64.f (a0 : Int) (a1 : Int) : Option (Int) := (cmp_isNaN_int64.f a0).bind fun t172 => ((cmp_isNaN_int64.f a1).bind fun t173 => (if t172 = true then (if t173 = true then (some 0) else (some (-1))) else (if t173 = true then (some 1) else (if a0 < a1 then (some (-1)) else (if a0 > a1 then (some 1) else (some 0))))))
set_option maxHeartbeats 8000000 in
set_option maxRecDepth 100000 in
theorem cmp_Compare_int64.calls (a0 : Int) (a1 : Int) (r : Int) (w : World) (h : cmp_Compare_int64.f a0 a1 = some r) :
  Calls Tryd.prog 96 #[.int .i64 a0, .int .i64 a1] w fun e w' => e = .returned (.int .i64 r) ∧ Drawn0 w w' := by
 have H : ((cmp_isNaN_int64.f a0).bind fun t172 => ((cmp_isNaN_int64.f a1).bind fun t173 => (if t172 = true then (if t173 = true then (some 0) else (some (-1))) else (if t173 = true then (some 1) else (if a0 < a1 then (some (-1)) else (if a0 > a1 then (some 1) else (some 0))))))) = some r := h
 clear h
 replace H := Option.bind_eq_some_iff.mp H
 obtain ⟨t172, A30, H⟩ := H
 replace H : ((cmp_isNaN_int64.f a1).bind fun t173 => (if t172 = true then (if t173 = true then (some 0) else (some (-1))) else (if t173 = true then (some 1) else (if a0 < a1 then (some (-1)) else (if a0 > a1 then (some 1) else (some 0)))))) = some r := H
 have A3 := Aside0.mk A30
 clear A30
 replace H := Option.bind_eq_some_iff.mp H
 obtain ⟨t173, A40, H⟩ := H
 replace H : (if t172 = true then (if t173 = true then (some 0) else (some (-1))) else (if t173 = true then (some 1) else (if a0 < a1 then (some (-1)) else (if a0 > a1 then (some 1) else (some 0))))) = some r := H
 have A4 := Aside0.mk A40
 clear A40
 by_cases c5 : t172 = true
 ·subst c5
  have H1 : (if t173 = true then (some 0) else (some (-1))) = some r := by rw [if_pos rfl] at H; exact H
  clear H
  have H := H1
  clear H1
  by_cases c6 : t173 = true
  ·subst c6
   have H1 : (some 0) = some r := by rw [if_pos rfl] at H; exact H
   clear H
   have H := H1
   clear H1
   obtain rfl := Option.some.inj H
   go_enter Tryd.func96, Tryd.ntmps96
   go_wp2_with (first | ((with_reducible refine gate_callee (f := 100) rfl ?_); refine goesA_ (some 8) rfl rfl Tryd.func100 (by kernel_rfl) rfl #[.int .i64 a0] rfl ?_; (with_reducible refine (cmp_isNaN_int64.calls a0 true _ A3.out).mono ?_); rintro e w' ⟨rfl, ⟨nd, rfl⟩⟩; refine ⟨_, rfl, ?_⟩) | ((with_reducible refine gate_callee (f := 100) rfl ?_); refine goesA_ (some 10) rfl rfl Tryd.func100 (by kernel_rfl) rfl #[.int .i64 a1] rfl ?_; (with_reducible refine (cmp_isNaN_int64.calls a1 true _ A4.out).mono ?_); rintro e w' ⟨rfl, ⟨nd, rfl⟩⟩; refine ⟨_, rfl, ?_⟩))
   go_ret
   exact ⟨by first | rfl | (simp; done) | (simp [*]; done), by repeat (first | exact Drawn0.refl _ | apply Drawn0.step)⟩
  ·replace c6 := Bool.eq_false_iff.mpr c6
   subst c6
   have H1 : (some (-1)) = some r := by rw [if_neg (show ¬ (false = true) by decide)] at H; exact H
   clear H
   have H := H1
   clear H1
   obtain rfl := Option.some.inj H
   go_enter Tryd.func96, Tryd.ntmps96
   go_wp2_with (first | ((with_reducible refine gate_callee (f := 100) rfl ?_); refine goesA_ (some 8) rfl rfl Tryd.func100 (by kernel_rfl) rfl #[.int .i64 a0] rfl ?_; (with_reducible refine (cmp_isNaN_int64.calls a0 true _ A3.out).mono ?_); rintro e w' ⟨rfl, ⟨nd, rfl⟩⟩; refine ⟨_, rfl, ?_⟩) | ((with_reducible refine gate_callee (f := 100) rfl ?_); refine goesA_ (some 10) rfl rfl Tryd.func100 (by kernel_rfl) rfl #[.int .i64 a1] rfl ?_; (with_reducible refine (cmp_isNaN_int64.calls a1 false _ A4.out).mono ?_); rintro e w' ⟨rfl, ⟨nd, rfl⟩⟩; refine ⟨_, rfl, ?_⟩))
   go_ret
   exact ⟨by first | rfl | (simp; done) | (simp [*]; done), by repeat (first | exact Drawn0.refl _ | apply Drawn0.step)⟩
 ·replace c5 := Bool.eq_false_iff.mpr c5
  subst c5
  have H1 : (if t173 = true then (some 1) else (if a0 < a1 then (some (-1)) else (if a0 > a1 then (some 1) else (some 0)))) = some r := by rw [if_neg (show ¬ (false = true) by decide)] at H; exact H
  clear H
  have H := H1
  clear H1
  by_cases c7 : t173 = true
  ·subst c7
   have H1 : (some 1) = some r := by rw [if_pos rfl] at H; exact H
   clear H
   have H := H1
   clear H1
   obtain rfl := Option.some.inj H
   go_enter Tryd.func96, Tryd.ntmps96
   go_wp2_with (first | ((with_reducible refine gate_callee (f := 100) rfl ?_); refine goesA_ (some 8) rfl rfl Tryd.func100 (by kernel_rfl) rfl #[.int .i64 a0] rfl ?_; (with_reducible refine (cmp_isNaN_int64.calls a0 false _ A3.out).mono ?_); rintro e w' ⟨rfl, ⟨nd, rfl⟩⟩; refine ⟨_, rfl, ?_⟩) | ((with_reducible refine gate_callee (f := 100) rfl ?_); refine goesA_ (some 10) rfl rfl Tryd.func100 (by kernel_rfl) rfl #[.int .i64 a1] rfl ?_; (with_reducible refine (cmp_isNaN_int64.calls a1 true _ A4.out).mono ?_); rintro e w' ⟨rfl, ⟨nd, rfl⟩⟩; refine ⟨_, rfl, ?_⟩))
   go_ret
   exact ⟨by first | rfl | (simp; done) | (simp [*]; done), by repeat (first | exact Drawn0.refl _ | apply Drawn0.step)⟩
  ·replace c7 := Bool.eq_false_iff.mpr c7
   subst c7
   have H1 : (if a0 < a1 then (some (-1)) else (if a0 > a1 then (some 1) else (some 0))) = some r := by rw [if_neg (show ¬ (false = true) by decide)] at H; exact H
   clear H
   have H := H1
   clear H1
   by_cases c8 : a0 < a1
   ·rw [if_pos c8] at H
    have c8b0 : decide (a0 < a1) = true := decide_eq_true c8
    clear c8
    obtain rfl := Option.some.inj H
    go_enter Tryd.func96, Tryd.ntmps96
    go_wp2_with (first | ((with_reducible refine gate_callee (f := 100) rfl ?_); refine goesA_ (some 8) rfl rfl Tryd.func100 (by kernel_rfl) rfl #[.int .i64 a0] rfl ?_; (with_reducible refine (cmp_isNaN_int64.calls a0 false _ A3.out).mono ?_); rintro e w' ⟨rfl, ⟨nd, rfl⟩⟩; refine ⟨_, rfl, ?_⟩) | ((with_reducible refine gate_callee (f := 100) rfl ?_); refine goesA_ (some 10) rfl rfl Tryd.func100 (by kernel_rfl) rfl #[.int .i64 a1] rfl ?_; (with_reducible refine (cmp_isNaN_int64.calls a1 false _ A4.out).mono ?_); rintro e w' ⟨rfl, ⟨nd, rfl⟩⟩; refine ⟨_, rfl, ?_⟩))
    go_ret
    exact ⟨by first | rfl | (simp; done) | (simp [*]; done), by repeat (first | exact Drawn0.refl _ | apply Drawn0.step)⟩
   ·rw [if_neg c8] at H
    have c8b0 : decide (a0 < a1) = false := decide_eq_false c8
    clear c8
    by_cases c9 : a0 > a1
    ·rw [if_pos c9] at H
     have c9b0 : decide (a1 < a0) = true := decide_eq_true c9
     clear c9
     obtain rfl := Option.some.inj H
     go_enter Tryd.func96, Tryd.ntmps96
     go_wp2_with (first | ((with_reducible refine gate_callee (f := 100) rfl ?_); refine goesA_ (some 8) rfl rfl Tryd.func100 (by kernel_rfl) rfl #[.int .i64 a0] rfl ?_; (with_reducible refine (cmp_isNaN_int64.calls a0 false _ A3.out).mono ?_); rintro e w' ⟨rfl, ⟨nd, rfl⟩⟩; refine ⟨_, rfl, ?_⟩) | ((with_reducible refine gate_callee (f := 100) rfl ?_); refine goesA_ (some 10) rfl rfl Tryd.func100 (by kernel_rfl) rfl #[.int .i64 a1] rfl ?_; (with_reducible refine (cmp_isNaN_int64.calls a1 false _ A4.out).mono ?_); rintro e w' ⟨rfl, ⟨nd, rfl⟩⟩; refine ⟨_, rfl, ?_⟩))
     go_ret
     exact ⟨by first | rfl | (simp; done) | (simp [*]; done), by repeat (first | exact Drawn0.refl _ | apply Drawn0.step)⟩
    ·rw [if_neg c9] at H
     have c9b0 : decide (a1 < a0) = false := decide_eq_false c9
     clear c9
     obtain rfl := Option.some.inj H
     go_enter Tryd.func96, Tryd.ntmps96
     go_wp2_with (first | ((with_reducible refine gate_callee (f := 100) rfl ?_); refine goesA_ (some 8) rfl rfl Tryd.func100 (by kernel_rfl) rfl #[.int .i64 a0] rfl ?_; (with_reducible refine (cmp_isNaN_int64.calls a0 false _ A3.out).mono ?_); rintro e w' ⟨rfl, ⟨nd, rfl⟩⟩; refine ⟨_, rfl, ?_⟩) | ((with_reducible refine gate_callee (f := 100) rfl ?_); refine goesA_ (some 10) rfl rfl Tryd.func100 (by kernel_rfl) rfl #[.int .i64 a1] rfl ?_; (with_reducible refine (cmp_isNaN_int64.calls a1 false _ A4.out).mono ?_); rintro e w' ⟨rfl, ⟨nd, rfl⟩⟩; refine ⟨_, rfl, ?_⟩))
     go_ret
     exact ⟨by first | rfl | (simp; done) | (simp [*]; done), by repeat (first | exact Drawn0.refl _ | apply Drawn0.step)⟩
/-! ### slices_Compare_int64_int64: function 87 -/
def slices_Compare_int64_int64.l0 : Nat → List Int → List Int → List Int → Int → Int → Option (Int)
 | 0, _, _, _, _, _ => none
 | k + 1, x0, x1, x9, x10, x11 => if x11 < x10 then (if 0 ≤ x11 then (if x11 < (x9.length : Int) then (if x11 ≥ (x1.length : Int) then (some 1) else (if x11 < (x1.length : Int) then ((cmp_Compare_int64.f (rd x9 x11) (rd x1 x11)).bind fun t176 => (if t176 = 0 then (slices_Compare_int64_int64.l0 k x0 x1 x9 x10 (wrap64 (x11 + 1))) else (some t176))) else (none))) else (none)) else (none)) else (if (x0.length : Int) < (x1.length : Int) then (some (-1)) else (some 0))
def slices_Compare_int64_int64.f (k : Nat) (l0 : List Int) (l1 : List Int) : Option (Int) := slices_Compare_int64_int64.l0 k l0 l1 l0 (l0.length : Int) 0
set_option maxHeartbeats 8000000 in
set_option maxRecDepth 100000 in
theorem slices_Compare_int64_int64.calls (k : Nat) (A0 : Option Addr) (c0 : Nat) (l0 : List Int) (A1 : Option Addr) (c1 : Nat) (l1 : List Int) (r : Int) (w : World) (hr0 : Kd.C (Kd.int .i64) w A0 l0.length l0) (hc0 : l0.length ≤ c0) (hr1 : Kd.C (Kd.int .i64) w A1 l1.length l1) (hc1 : l1.length ≤ c1) (h : slices_Compare_int64_int64.f k l0 l1 = some r) :
  Calls Tryd.prog 87 #[.slice A0 l0.length c0, .slice A1 l1.length c1] w fun e w' => e = .returned (.int .i64 r) ∧ Drawn0 w w' := by
 have HR0 := Aside0.mk hr0
 have HC0 := Aside0.mk hc0
 clear hr0 hc0
 have HR1 := Aside0.mk hr1
 have HC1 := Aside0.mk hc1
 clear hr1 hc1
 have H : (slices_Compare_int64_int64.l0 k l0 l1 l0 (l0.length : Int) 0) = some r := h
 clear h
 have H' := Aside0.mk H
 clear H
 go_enter Tryd.func87, Tryd.ntmps87
 go_wp2
 go_loopg [11] k (fun kq v11 w' => ∃ (x11_1 : Int), v11 = .int .i64 x11_1 ∧ Aside0 (slices_Compare_int64_int64.l0 kq l0 l1 l0 (l0.length : Int) x11_1 = some r) ∧ Aside0 (kq ≤ k) ∧ Drawn0 w w')
 case atStart => exact ⟨(0), (by first | rfl | (simp; done) | (simp [*]; done)), H', ⟨Nat.le_refl _⟩, by repeat (first | exact Drawn0.refl _ | apply Drawn0.step)⟩
 case round =>
  clear H'
  (try clear c1); (try clear p2)
  obtain ⟨x11_1, rfl, HA, HK1, ⟨m1, rfl⟩⟩ := hrel
  cases gk with
  | zero => exact absurd HA.out (by simp [slices_Compare_int64_int64.l0])
  | succ k1 =>
   have H := HA.out
   clear HA
   simp only [slices_Compare_int64_int64.l0] at H
   by_cases c3 : x11_1 < (l0.length : Int)
   ·rw [if_pos c3] at H
    have c3b0 : decide (x11_1 < (l0.length : Int)) = true := decide_eq_true c3
    clear c3
    by_cases c4 : 0 ≤ x11_1
    ·rw [if_pos c4] at H
     have c4b0 : decide (0 ≤ x11_1) = true := decide_eq_true c4
     clear c4
     by_cases c5 : x11_1 < (l0.length : Int)
     ·rw [if_pos c5] at H
      have c5b0 : decide (x11_1 < (l0.length : Int)) = true := decide_eq_true c5
      clear c5
      by_cases c6 : x11_1 ≥ (l1.length : Int)
      ·rw [if_pos c6] at H
       have c6b0 : decide ((l1.length : Int) ≤ x11_1) = true := decide_eq_true c6
       clear c6
       obtain rfl := Option.some.inj H
       have p174 : 0 ≤ (x11_1 : Int) := oda
       have q174 : x11_1 < (l0.length : Int) := oda
       obtain ⟨ad174, e174, hx174_0⟩ := Kd.at_int HR0.out x11_1 p174 q174
       cases e174
       replace p174 := eq_true p174
       replace q174 := eq_true q174
       go_wp2
       go_ret
       exact ⟨by first | rfl | (simp; done) | (simp [*]; done), by repeat (first | exact Drawn0.refl _ | apply Drawn0.step)⟩
      ·rw [if_neg c6] at H
       have c6b0 : decide ((l1.length : Int) ≤ x11_1) = false := decide_eq_false c6
       clear c6
       by_cases c7 : x11_1 < (l1.length : Int)
       ·rw [if_pos c7] at H
        have c7b0 : decide (x11_1 < (l1.length : Int)) = true := decide_eq_true c7
        clear c7
        replace H := Option.bind_eq_some_iff.mp H
        obtain ⟨t176, A80, H⟩ := H
        replace H : (if t176 = 0 then (slices_Compare_int64_int64.l0 k1 l0 l1 l0 (l0.length : Int) (wrap64 (x11_1 + 1))) else (some t176)) = some r := H
        have A8 := Aside0.mk A80
        clear A80
        by_cases c9 : t176 = 0
        ·rw [if_pos c9] at H
         have c9b0 : (t176 == 0) = true := beq_iff_eq.mpr c9
         have c9b1 : (t176 != 0) = false := bne_eq_false_iff_eq.mpr c9
         clear c9
         have H' := Aside0.mk H
         clear H
         have p174 : 0 ≤ (x11_1 : Int) := oda
         have q174 : x11_1 < (l0.length : Int) := oda
         obtain ⟨ad174, e174, hx174_0⟩ := Kd.at_int HR0.out x11_1 p174 q174
         cases e174
         replace p174 := eq_true p174
         replace q174 := eq_true q174
         have p175 : 0 ≤ (x11_1 : Int) := oda
         have q175 : x11_1 < (l1.length : Int) := oda
         obtain ⟨ad175, e175, hx175_0⟩ := Kd.at_int HR1.out x11_1 p175 q175
         cases e175
         replace p175 := eq_true p175
         replace q175 := eq_true q175
         go_wp2_with (first | ((with_reducible refine gate_callee (f := 96) rfl ?_); refine goesA_ (some 26) rfl rfl Tryd.func96 (by kernel_rfl) rfl #[.int .i64 (rd l0 x11_1), .int .i64 (rd l1 x11_1)] rfl ?_; (with_reducible refine (cmp_Compare_int64.calls (rd l0 x11_1) (rd l1 x11_1) t176 _ A8.out).mono ?_); rintro e w' ⟨rfl, ⟨nd, rfl⟩⟩; refine ⟨_, rfl, ?_⟩))
         go_roundg k1
         case measure => have := HK1.out; omega
         case rel => exact ⟨(wrap64 (x11_1 + 1)), (by first | rfl | (simp; done) | (simp [*]; done)), H', ⟨by have := HK1.out; omega⟩, by repeat (first | exact Drawn0.refl _ | apply Drawn0.step)⟩
        ·rw [if_neg c9] at H
         have c9b0 : (t176 == 0) = false := beq_eq_false_iff_ne.mpr c9
         have c9b1 : (t176 != 0) = true := bne_iff_ne.mpr c9
         obtain rfl := Option.some.inj H
         have p174 : 0 ≤ (x11_1 : Int) := oda
         have q174 : x11_1 < (l0.length : Int) := oda
         obtain ⟨ad174, e174, hx174_0⟩ := Kd.at_int HR0.out x11_1 p174 q174
         cases e174
         replace p174 := eq_true p174
         replace q174 := eq_true q174
         have p175 : 0 ≤ (x11_1 : Int) := oda
         have q175 : x11_1 < (l1.length : Int) := oda
         obtain ⟨ad175, e175, hx175_0⟩ := Kd.at_int HR1.out x11_1 p175 q175
         cases e175
         replace p175 := eq_true p175
         replace q175 := eq_true q175
         go_wp2_with (first | ((with_reducible refine gate_callee (f := 96) rfl ?_); refine goesA_ (some 26) rfl rfl Tryd.func96 (by kernel_rfl) rfl #[.int .i64 (rd l0 x11_1), .int .i64 (rd l1 x11_1)] rfl ?_; (with_reducible refine (cmp_Compare_int64.calls (rd l0 x11_1) (rd l1 x11_1) t176 _ A8.out).mono ?_); rintro e w' ⟨rfl, ⟨nd, rfl⟩⟩; refine ⟨_, rfl, ?_⟩))
         go_ret
         exact ⟨by first | rfl | (simp; done) | (simp [*]; done), by repeat (first | exact Drawn0.refl _ | apply Drawn0.step)⟩
       ·rw [if_neg c7] at H
        exact absurd H (by simp)
     ·rw [if_neg c5] at H
      exact absurd H (by simp)
    ·rw [if_neg c4] at H
     exact absurd H (by simp)
   ·rw [if_neg c3] at H
    have c3b0 : decide (x11_1 < (l0.length : Int)) = false := decide_eq_false c3
    clear c3
    by_cases c10 : (l0.length : Int) < (l1.length : Int)
    ·rw [if_pos c10] at H
     have c10b0 : decide ((l0.length : Int) < (l1.length : Int)) = true := decide_eq_true c10
     have c10b1 : decide (l0.length < l1.length) = true := decide_eq_true (Int.ofNat_lt.mp c10)
     clear c10
     obtain rfl := Option.some.inj H
     go_wp2
     go_ret
     exact ⟨by first | rfl | (simp; done) | (simp [*]; done), by repeat (first | exact Drawn0.refl _ | apply Drawn0.step)⟩
    ·rw [if_neg c10] at H
     have c10b0 : decide ((l0.length : Int) < (l1.length : Int)) = false := decide_eq_false c10
     have c10b1 : decide (l0.length < l1.length) = false := decide_eq_false (fun h => c10 (Int.ofNat_lt.mpr h))
     clear c10
     obtain rfl := Option.some.inj H
     go_wp2
     go_ret
     exact ⟨by first | rfl | (simp; done) | (simp [*]; done), by repeat (first | exact Drawn0.refl _ | apply Drawn0.step)⟩
/-- Plain facts on the verifier's helpers: copies are copies, and a list is equal to itself. -/
theorem wrap_next {i : Nat} {n : Nat} (h : i < n) (hn : n ≤ 9223372036854775807) : wrap64 ((i : Int) + 1) = ((i + 1 : Nat) : Int) := by
  unfold wrap64; omega
theorem rd_nat (l : List Int) (i : Nat) : rd l (i : Int) = l.getD i 0 := rfl
theorem rd_get (l : List Int) (i : Nat) (h : i < l.length) : rd l (i : Int) = l[i] := by
  rw [rd_nat, List.getD_eq_getElem?_getD, List.getElem?_eq_getElem h]; rfl
theorem take_set_next {α : Type} (x y : List α) (i : Nat) (h : i < x.length) (hl : y.length = x.length) (ht : y.take i = x.take i) : (y.set i x[i]).take (i + 1) = x.take (i + 1) := by
  rw [List.take_succ_eq_append_getElem h, List.take_succ_eq_append_getElem (by simpa [hl] using h)]
  congr 1
  · rw [List.take_set_of_le (Nat.le_refl i)]; exact ht
  · simp
theorem toInt64S_l0 (x : List Int) (hx : x.length ≤ 35184372088832) : ∀ (d i : Nat) (y : List Int), i + d = x.length → y.length = x.length → y.take i = x.take i → Ev (fun k => laws_toInt64S.l0 k x y i) x := by
  intro d
  induction d with
  | zero =>
    intro i y hi hl ht
    refine Ev.step (f := fun _ => some x) (fun k => ?_) (Ev.now _)
    simp only [laws_toInt64S.l0]
    rw [if_neg (by omega)]
    have : i = x.length := by omega
    rw [this, List.take_of_length_le (by omega), List.take_of_length_le (by omega)] at ht
    rw [ht]
  | succ d ih =>
    intro i y hi hl ht
    have hlt : i < x.length := by omega
    refine Ev.step (f := fun k => laws_toInt64S.l0 k x (y.set i x[i]) ((i + 1 : Nat) : Int)) (fun k => ?_) (ih (i + 1) _ (by omega) (by simpa using hl) (take_set_next x y i hlt hl ht))
    simp only [laws_toInt64S.l0]
    rw [if_pos (by omega), if_pos (by omega), if_pos (by omega), wrap_next hlt (by omega), rd_get x i hlt, Int.toNat_natCast]
theorem toInt64S_ev (x : List Int) (hx : x.length ≤ 35184372088832) : Ev (fun k => laws_toInt64S.f k x) x := by
  refine Ev.congr (f := fun k => laws_toInt64S.l0 k x (List.replicate x.length 0) ((0 : Nat) : Int)) (fun k => ?_) (toInt64S_l0 x hx x.length 0 _ (by omega) (by simp) (by simp))
  unfold laws_toInt64S.f
  rw [if_pos (by omega), if_pos (by omega), Int.toNat_natCast]; rfl
theorem eqInt64S_l0 (x y : List Int) (hl : x.length = y.length) (hx : x.length ≤ 9223372036854775807) : ∀ (d i : Nat), i + d = x.length → x.take i = y.take i → Ev (fun k => laws_eqInt64S.l0 k x y i) (decide (x = y)) := by
  intro d
  induction d with
  | zero =>
    intro i hi ht
    refine Ev.step (f := fun _ => some (decide (x = y))) (fun k => ?_) (Ev.now _)
    simp only [laws_eqInt64S.l0]
    rw [if_neg (by omega)]
    have : i = x.length := by omega
    rw [this, List.take_of_length_le (by omega), List.take_of_length_le (by omega)] at ht
    simp [ht]
  | succ d ih =>
    intro i hi ht
    have hlt : i < x.length := by omega
    by_cases he : x[i] = y[i]
    · refine Ev.step (f := fun k => laws_eqInt64S.l0 k x y ((i + 1 : Nat) : Int)) (fun k => ?_) (ih (i + 1) (by omega) ?_)
      · simp only [laws_eqInt64S.l0]
        rw [if_pos (by omega), if_pos (by omega), if_pos (by omega), wrap_next hlt (by omega), rd_get x i hlt, rd_get y i (by omega), if_pos he]
      · rw [List.take_succ_eq_append_getElem hlt, List.take_succ_eq_append_getElem (by omega), ht, he]
    · refine Ev.step (f := fun _ => some (decide (x = y))) (fun k => ?_) (Ev.now _)
      simp only [laws_eqInt64S.l0]
      rw [if_pos (by omega), if_pos (by omega), if_pos (by omega), rd_get x i hlt, rd_get y i (by omega), if_neg he]
      have : x ≠ y := fun h => he (by subst h; rfl)
      simp [this]
theorem eqInt64S_ev (x y : List Int) (hx : x.length ≤ 9223372036854775807) : Ev (fun k => laws_eqInt64S.f k x y) (decide (x = y)) := by
  by_cases h : x.length = y.length
  · refine Ev.congr (f := fun k => laws_eqInt64S.l0 k x y ((0 : Nat) : Int)) (fun k => ?_) (eqInt64S_l0 x y h hx x.length 0 (by omega) (by simp))
    unfold laws_eqInt64S.f
    rw [if_pos (by omega)]; rfl
  · refine Ev.congr (f := fun _ => some (decide (x = y))) (fun k => ?_) (Ev.now _)
    unfold laws_eqInt64S.f
    rw [if_neg (by omega)]
    have : x ≠ y := fun e => h (by rw [e])
    simp [this]/-- slices.Compare of numbers, as a plain function, and what the machine does. -/
def cmpL : List Int → List Int → Int
  | [], [] => 0
  | [], _ :: _ => -1
  | _ :: _, [] => 1
  | a :: x, b :: y => if a < b then -1 else if b < a then 1 else cmpL x y
theorem cmp1_f (a b : Int) : cmp_Compare_int64.f a b = some (if a < b then -1 else if b < a then 1 else 0) := by
  unfold cmp_Compare_int64.f cmp_isNaN_int64.f
  by_cases h1 : a < b
  · simp [h1]
  · by_cases h2 : b < a <;> simp [h1, h2]
theorem compare_l0 (x y : List Int) (hx : x.length ≤ 9223372036854775807) : ∀ (d i : Nat), i + d = x.length → i ≤ y.length → Ev (fun k => slices_Compare_int64_int64.l0 k x y x (x.length : Int) i) (cmpL (x.drop i) (y.drop i)) := by
  intro d
  induction d with
  | zero =>
    intro i hi hy
    refine Ev.step (f := fun _ => some _) (fun k => ?_) (Ev.now _)
    simp only [slices_Compare_int64_int64.l0]
    rw [if_neg (by omega), List.drop_of_length_le (l := x) (by omega)]
    by_cases h : i < y.length
    · rw [if_pos (by omega), List.drop_eq_getElem_cons h]; rfl
    · rw [if_neg (by omega), List.drop_of_length_le (by omega)]; rfl
  | succ d ih =>
    intro i hi hy
    have hlt : i < x.length := by omega
    by_cases h : i < y.length
    · have e1 : x.drop i = x[i] :: x.drop (i + 1) := List.drop_eq_getElem_cons hlt
      have e2 : y.drop i = y[i] :: y.drop (i + 1) := List.drop_eq_getElem_cons h
      rw [e1, e2]
      by_cases c1 : x[i] < y[i]
      · refine Ev.step (f := fun _ => some _) (fun k => ?_) (Ev.now _)
        simp only [slices_Compare_int64_int64.l0, cmpL]
        rw [if_pos (by omega), if_pos (by omega), if_pos (by omega), if_neg (by omega), if_pos (by omega), rd_get x i hlt, rd_get y i h, cmp1_f, if_pos c1, if_pos c1]; rfl
      · by_cases c2 : y[i] < x[i]
        · refine Ev.step (f := fun _ => some _) (fun k => ?_) (Ev.now _)
          simp only [slices_Compare_int64_int64.l0, cmpL]
          rw [if_pos (by omega), if_pos (by omega), if_pos (by omega), if_neg (by omega), if_pos (by omega), rd_get x i hlt, rd_get y i h, cmp1_f, if_neg c1, if_pos c2, if_neg c1, if_pos c2]; rfl
        · simp only [cmpL]
          rw [if_neg c1, if_neg c2]
          refine Ev.step (fun k => ?_) (ih (i + 1) (by omega) (by omega))
          simp only [slices_Compare_int64_int64.l0]
          rw [if_pos (by omega), if_pos (by omega), if_pos (by omega), if_neg (by omega), if_pos (by omega), rd_get x i hlt, rd_get y i h, cmp1_f, if_neg c1, if_neg c2, wrap_next hlt (by omega)]; rfl
    · refine Ev.step (f := fun _ => some _) (fun k => ?_) (Ev.now _)
      simp only [slices_Compare_int64_int64.l0]
      rw [if_pos (by omega), if_pos (by omega), if_pos (by omega), if_pos (by omega), List.drop_eq_getElem_cons hlt, List.drop_of_length_le (l := y) (by omega)]; rfl
theorem compare_tot (x y : List Int) (hx : x.length ≤ 9223372036854775807) : ∃ k, slices_Compare_int64_int64.f k x y = some (cmpL x y) := by
  have := (compare_l0 x y hx x.length 0 (by omega) (by omega)).rounds
  simpa [slices_Compare_int64_int64.f] using this
theorem compare_run (A0 : Option Addr) (c0 : Nat) (x : List Int) (A1 : Option Addr) (c1 : Nat) (y : List Int) (w : World) (hr0 : Kd.C (Kd.int .i64) w A0 x.length x) (hc0 : x.length ≤ c0) (hr1 : Kd.C (Kd.int .i64) w A1 y.length y) (hc1 : y.length ≤ c1) :
    Calls Tryd.prog 87 #[.slice A0 x.length c0, .slice A1 y.length c1] w fun e w' => e = .returned (.int .i64 (cmpL x y)) ∧ Drawn0 w w' := by
  obtain ⟨k, hk⟩ := compare_tot x y hr0.2.1
  exact slices_Compare_int64_int64.calls k A0 c0 x A1 c1 y _ w hr0 hc0 hr1 hc1 hk
/-! ### slices_IsSortedFunc_int64_int64: function 86 -/
-- EXTERNAL: by hand
-- slices_Compare_int64_int64
def sortedBy (c : List Int → List Int → Int) : List (List Int) → Bool
  | [] => true
  | [_] => true
  | a :: b :: r => !decide (c b a < 0) && sortedBy c (b :: r)
theorem sortedBy_get (c : List Int → List Int → Int) : ∀ (l : List (List Int)), sortedBy c l = true ↔ ∀ i x y, l[i]? = some x → l[i + 1]? = some y → ¬ c y x < 0
  | [] => by simp [sortedBy]
  | [_] => by
    simp only [sortedBy, true_iff]
    intro i x y h1 h2
    cases i <;> simp at h2
  | a :: b :: r => by
    have ih := sortedBy_get c (b :: r)
    simp only [sortedBy, Bool.and_eq_true, ih, Bool.not_eq_true', decide_eq_false_iff_not]
    constructor
    · rintro ⟨h1, h2⟩ i x y hx hy
      cases i with
      | zero =>
        simp only [List.getElem?_cons_zero, Option.some.injEq, List.getElem?_cons_succ] at hx hy
        subst hx hy
        exact h1
      | succ i => exact h2 i x y (by simpa using hx) (by simpa using hy)
    · intro h
      exact ⟨h 0 a b (by simp) (by simp), fun i x y hx hy => h (i + 1) x y (by simpa using hx) (by simpa using hy)⟩
set_option maxHeartbeats 4000000 in
set_option maxRecDepth 100000 in
theorem slices_IsSortedFunc_int64_int64.calls (A0 : Option Addr) (c0 : Nat) (l0 : List (List Int)) (w : World) (hr0 : Kd.C (Kd.slice 2 (Kd.int .i64)) w A0 l0.length l0) (hc0 : l0.length ≤ c0) :
    Calls Tryd.prog 86 #[.slice A0 l0.length c0, .func (.func 87) #[] #[]] w fun e w' => e = .returned (.bool (sortedBy cmpL l0)) ∧ Drawn0 w w' := by
  have eg : ∀ args w, (callFunc 87 args).run Tryd.prog w = .ok (.enter 87 args) w := enters_of Tryd.func87 (by kernel_rfl) rfl
  have HR := Aside0.mk hr0
  have hm := hr0.2.1
  clear hr0
  go_enter Tryd.func86, Tryd.ntmps86
  go_wp2_with fail
  go_loopg [5] l0.length (fun gg s5 wr => ∃ (i : Int), s5 = .int .i64 i ∧ -1 ≤ i ∧ i < l0.length ∧ i < gg + 0 ∧ Aside0 (∀ (j : Nat) (x y : List Int), i < (j : Int) + 1 → l0[j]? = some x → l0[j + 1]? = some y → ¬ cmpL y x < 0) ∧ Drawn0 w wr)
  case atStart =>
    refine ⟨(l0.length : Int) - 1, by go_num, by omega, by omega, by omega, ⟨fun j x y hj hx hy => ?_⟩, Drawn0.refl _⟩
    have := (List.getElem?_eq_some_iff.1 hy).1
    omega
  case round =>
    obtain ⟨i, rfl, h1, h2, h3, HA, ⟨m, rfl⟩⟩ := hrel
    by_cases hp : 0 < i
    · obtain ⟨n, hn1⟩ : ∃ n : Nat, i.toNat = n + 1 := ⟨i.toNat - 1, by omega⟩
      have hn : n + 1 < l0.length := by omega
      have en : (i - 1).toNat = n := by omega
      obtain ⟨ad, v1, rfl, hx1, hK1⟩ := Kd.C_one rfl HR.out (n + 1) hn rfl
      obtain ⟨ad', v0, hA, hx0, hK0⟩ := Kd.C_one rfl HR.out n (by omega) rfl
      cases hA
      obtain ⟨A1, k1, e1, hl1, hC1⟩ := hK1
      obtain ⟨A2, k2, e2, hl2, hC2⟩ := hK0
      simp only [List.cons.injEq, and_true] at e1 e2
      subst e1 e2
      have HX := Aside0.mk (List.getElem?_eq_getElem (show n < l0.length by omega))
      have HY := Aside0.mk (List.getElem?_eq_getElem hn)
      generalize l0[n] = x at *
      generalize l0[n + 1] = y at *
      have HC1 := Aside0.mk hC1
      have HC2 := Aside0.mk hC2
      have hcall := fun W hb => compare_run A1 k1 y A2 k2 x W (Kd.C_below HC1.out hb) hl1 (Kd.C_below HC2.out hb) hl2
      clear hC1 hC2
      have hn1' : i = (n : Int) + 1 := by omega
      rw [← hn1] at hx1
      rw [← en] at hx0
      have HN := Aside0.mk hn1'
      have hpb : decide (0 < i) = true := decide_eq_true hp
      have hi1 : 0 ≤ i := by omega
      obtain ⟨i1, e1⟩ : ∃ i1, i - 1 = i1 := ⟨_, rfl⟩
      have hi3 : IntKind.i64.wrap (i - 1) = i1 := by rw [IntKind.wrap_i64]; omega
      have hi4 : 0 ≤ i1 := by omega
      have hi5 : i1 < (l0.length : Int) := by omega
      rw [e1] at hx0
      have HE := Aside0.mk e1
      clear hn1 en hn1' hn e1
      by_cases hc : cmpL y x < 0
      · have HV := Aside0.mk (show sortedBy cmpL l0 = false from by
          rw [Bool.eq_false_iff]
          intro h
          exact (sortedBy_get cmpL l0).1 h n x y HX.out HY.out hc)
        have hcb : decide (cmpL y x < 0) = true := decide_eq_true hc
        go_wp2_with fail
        go_quiet ((go_at_call 87; refine (hcall _ (Drawn0.below ((Drawn0.refl w).step _))).mono ?_; rintro e w' ⟨rfl, ⟨nd, rfl⟩⟩; (try first | exact ⟨rfl, _, World.drewN_drewN _ _ _⟩ | exact ⟨rfl, _, Eq.trans (World.drewN_drewN _ _ _) (congrArg (World.drewN _) (Nat.add_assoc _ _ _))⟩)))
        go_wp2_with fail
        go_ret
        exact ⟨by rw [HV.out]; rfl, by repeat (first | exact Drawn0.refl _ | apply Drawn0.step)⟩
      · have hcb : decide (cmpL y x < 0) = false := decide_eq_false hc
        go_wp2_with fail
        go_quiet ((go_at_call 87; refine (hcall _ (Drawn0.below ((Drawn0.refl w).step _))).mono ?_; rintro e w' ⟨rfl, ⟨nd, rfl⟩⟩; (try first | exact ⟨rfl, _, World.drewN_drewN _ _ _⟩ | exact ⟨rfl, _, Eq.trans (World.drewN_drewN _ _ _) (congrArg (World.drewN _) (Nat.add_assoc _ _ _))⟩)))
        go_wp2_with fail
        have hn1' := HN.out
        have e1 := HE.out
        go_roundg (n + 1)
        case measure => omega
        case rel =>
          refine ⟨i1, rfl, by omega, by omega, by omega, ⟨fun j x' y' hj hx' hy' => ?_⟩, by repeat (first | exact Drawn0.refl _ | apply Drawn0.step)⟩
          by_cases e : j = n
          · subst e
            rw [HX.out] at hx'
            rw [HY.out] at hy'
            cases hx'; cases hy'
            exact hc
          · exact HA.out j x' y' (by omega) hx' hy'
    · have HV := Aside0.mk (show sortedBy cmpL l0 = true from (sortedBy_get cmpL l0).2 (fun j x y hx hy => HA.out j x y (by omega) hx hy))
      have hpb : decide (0 < i) = false := decide_eq_false hp
      go_wp2_with fail
      go_ret
      exact ⟨by rw [HV.out]; rfl, by repeat (first | exact Drawn0.refl _ | apply Drawn0.step)⟩
/-! ### impl_within: function 45 -/
def impl_within.f (a0 : Int) (a1 : Int) (a2 : Int) : Option (Bool) := if a1 ≤ a0 then (some (decide (a0 ≤ a2))) else (some false)
set_option maxHeartbeats 8000000 in
set_option maxRecDepth 100000 in
theorem impl_within.calls (a0 : Int) (a1 : Int) (a2 : Int) (r : Bool) (w : World) (h : impl_within.f a0 a1 a2 = some r) :
  Calls Tryd.prog 45 #[.int .i64 a0, .int .i64 a1, .int .i64 a2] w fun e w' => e = .returned (.bool r) ∧ Drawn0 w w' := by
 have H : (if a1 ≤ a0 then (some (decide (a0 ≤ a2))) else (some false)) = some r := h
 clear h
 by_cases c4 : a1 ≤ a0
 ·rw [if_pos c4] at H
  have c4b0 : decide (a1 ≤ a0) = true := decide_eq_true c4
  clear c4
  obtain rfl := Option.some.inj H
  go_enter Tryd.func45, Tryd.ntmps45
  go_wp2
  go_ret
  exact ⟨by first | rfl | (simp; done) | (simp [*]; done), by repeat (first | exact Drawn0.refl _ | apply Drawn0.step)⟩
 ·rw [if_neg c4] at H
  have c4b0 : decide (a1 ≤ a0) = false := decide_eq_false c4
  clear c4
  obtain rfl := Option.some.inj H
  go_enter Tryd.func45, Tryd.ntmps45
  go_wp2
  go_ret
  exact ⟨by first | rfl | (simp; done) | (simp [*]; done), by repeat (first | exact Drawn0.refl _ | apply Drawn0.step)⟩
/-- 'within', as a plain function, and what the machine does. -/
def inW (n a b : Int) : Bool := decide (a ≤ n) && decide (n ≤ b)
theorem within_inW (n a b : Int) : impl_within.f n a b = some (inW n a b) := by
  unfold impl_within.f inW
  by_cases h : a ≤ n <;> simp [h]
theorem within_run (n a b : Int) (w : World) : Calls Tryd.prog 45 #[.int .i64 n, .int .i64 a, .int .i64 b] w fun e w' => e = .returned (.bool (inW n a b)) ∧ Drawn0 w w' :=
  impl_within.calls n a b _ w (within_inW n a b)
/-! ### impl_isRising: function 85 -/
def impl_isRising.l0 : Nat → List Int → Int → Int → List Int → Int → Int → Option (Bool)
 | 0, _, _, _, _, _, _ => none
 | k + 1, x0, x1, x2, x9, x10, x11 => if x11 < x10 then (if 0 ≤ x11 then (if x11 < (x9.length : Int) then ((impl_within.f (rd x9 x11) x1 x2).bind fun t170 => (if t170 = true then (if x11 > 0 then (if 0 ≤ (wrap64 (x11 - 1)) then (if (wrap64 (x11 - 1)) < (x0.length : Int) then (if (rd x9 x11) ≤ (rd x0 (wrap64 (x11 - 1))) then (some false) else (impl_isRising.l0 k x0 x1 x2 x9 x10 (wrap64 (x11 + 1)))) else (none)) else (none)) else (impl_isRising.l0 k x0 x1 x2 x9 x10 (wrap64 (x11 + 1)))) else (some false))) else (none)) else (none)) else (some true)
def impl_isRising.f (k : Nat) (l0 : List Int) (a1 : Int) (a2 : Int) : Option (Bool) := impl_isRising.l0 k l0 a1 a2 l0 (l0.length : Int) 0
set_option maxHeartbeats 8000000 in
set_option maxRecDepth 100000 in
theorem impl_isRising.calls (k : Nat) (A0 : Option Addr) (c0 : Nat) (l0 : List Int) (a1 : Int) (a2 : Int) (r : Bool) (w : World) (hr0 : Kd.C (Kd.int .i64) w A0 l0.length l0) (hc0 : l0.length ≤ c0) (h : impl_isRising.f k l0 a1 a2 = some r) :
  Calls Tryd.prog 85 #[.slice A0 l0.length c0, .int .i64 a1, .int .i64 a2] w fun e w' => e = .returned (.bool r) ∧ Drawn0 w w' := by
 have HR0 := Aside0.mk hr0
 have HC0 := Aside0.mk hc0
 clear hr0 hc0
 have H : (impl_isRising.l0 k l0 a1 a2 l0 (l0.length : Int) 0) = some r := h
 clear h
 have H' := Aside0.mk H
 clear H
 go_enter Tryd.func85, Tryd.ntmps85
 go_wp2
 go_loopg [11] k (fun kq v11 w' => ∃ (x11_1 : Int), v11 = .int .i64 x11_1 ∧ Aside0 (impl_isRising.l0 kq l0 a1 a2 l0 (l0.length : Int) x11_1 = some r) ∧ Aside0 (kq ≤ k) ∧ Drawn0 w w')
 case atStart => exact ⟨(0), (by first | rfl | (simp; done) | (simp [*]; done)), H', ⟨Nat.le_refl _⟩, by repeat (first | exact Drawn0.refl _ | apply Drawn0.step)⟩
 case round =>
  clear H'
  (try clear p2)
  obtain ⟨x11_1, rfl, HA, HK1, ⟨m1, rfl⟩⟩ := hrel
  cases gk with
  | zero => exact absurd HA.out (by simp [impl_isRising.l0])
  | succ k1 =>
   have H := HA.out
   clear HA
   simp only [impl_isRising.l0] at H
   by_cases c4 : x11_1 < (l0.length : Int)
   ·rw [if_pos c4] at H
    have c4b0 : decide (x11_1 < (l0.length : Int)) = true := decide_eq_true c4
    clear c4
    by_cases c5 : 0 ≤ x11_1
    ·rw [if_pos c5] at H
     have c5b0 : decide (0 ≤ x11_1) = true := decide_eq_true c5
     clear c5
     by_cases c6 : x11_1 < (l0.length : Int)
     ·rw [if_pos c6] at H
      have c6b0 : decide (x11_1 < (l0.length : Int)) = true := decide_eq_true c6
      clear c6
      replace H := Option.bind_eq_some_iff.mp H
      obtain ⟨t170, A70, H⟩ := H
      replace H : (if t170 = true then (if x11_1 > 0 then (if 0 ≤ (wrap64 (x11_1 - 1)) then (if (wrap64 (x11_1 - 1)) < (l0.length : Int) then (if (rd l0 x11_1) ≤ (rd l0 (wrap64 (x11_1 - 1))) then (some false) else (impl_isRising.l0 k1 l0 a1 a2 l0 (l0.length : Int) (wrap64 (x11_1 + 1)))) else (none)) else (none)) else (impl_isRising.l0 k1 l0 a1 a2 l0 (l0.length : Int) (wrap64 (x11_1 + 1)))) else (some false)) = some r := H
      have A7 := Aside0.mk A70
      clear A70
      by_cases c8 : t170 = true
      ·subst c8
       have H1 : (if x11_1 > 0 then (if 0 ≤ (wrap64 (x11_1 - 1)) then (if (wrap64 (x11_1 - 1)) < (l0.length : Int) then (if (rd l0 x11_1) ≤ (rd l0 (wrap64 (x11_1 - 1))) then (some false) else (impl_isRising.l0 k1 l0 a1 a2 l0 (l0.length : Int) (wrap64 (x11_1 + 1)))) else (none)) else (none)) else (impl_isRising.l0 k1 l0 a1 a2 l0 (l0.length : Int) (wrap64 (x11_1 + 1)))) = some r := by rw [if_pos rfl] at H; exact H
       clear H
       have H := H1
       clear H1
       by_cases c9 : x11_1 > 0
       ·rw [if_pos c9] at H
        have c9b0 : decide (0 < x11_1) = true := decide_eq_true c9
        clear c9
        obtain ⟨ji10, hji10⟩ : ∃ j_ : Int, (wrap64 (x11_1 - 1)) = j_ := ⟨_, rfl⟩
        replace H : (if 0 ≤ (ji10) then (if (ji10) < (l0.length : Int) then (if (rd l0 x11_1) ≤ (rd l0 (ji10)) then (some false) else (impl_isRising.l0 k1 l0 a1 a2 l0 (l0.length : Int) (wrap64 (x11_1 + 1)))) else (none)) else (none)) = some r := by first | (rw [hji10] at H; exact H) | (simp only [hji10] at H ⊢; exact H)
        (try rw [hji10] at A7)
        have hji10w : (IntKind.i64.wrap (x11_1 - 1)) = ji10 := (i64_w _).trans hji10
        by_cases c11 : 0 ≤ (ji10)
        ·rw [if_pos c11] at H
         have c11b0 : decide (0 ≤ (ji10)) = true := decide_eq_true c11
         clear c11
         by_cases c12 : (ji10) < (l0.length : Int)
         ·rw [if_pos c12] at H
          have c12b0 : decide ((ji10) < (l0.length : Int)) = true := decide_eq_true c12
          clear c12
          by_cases c13 : (rd l0 x11_1) ≤ (rd l0 (ji10))
          ·rw [if_pos c13] at H
           have c13b0 : decide ((rd l0 x11_1) ≤ (rd l0 (ji10))) = true := decide_eq_true c13
           clear c13
           obtain rfl := Option.some.inj H
           have p169 : 0 ≤ (x11_1 : Int) := oda
           have q169 : x11_1 < (l0.length : Int) := oda
           obtain ⟨ad169, e169, hx169_0⟩ := Kd.at_int HR0.out x11_1 p169 q169
           cases e169
           replace p169 := eq_true p169
           replace q169 := eq_true q169
           go_wp2_with (first | ((with_reducible refine gate_callee (f := 45) rfl ?_); refine goesA_ (some 19) rfl rfl Tryd.func45 (by kernel_rfl) rfl #[.int .i64 (rd l0 x11_1), .int .i64 a1, .int .i64 a2] rfl ?_; (with_reducible refine (impl_within.calls (rd l0 x11_1) a1 a2 true _ A7.out).mono ?_); rintro e w' ⟨rfl, ⟨nd, rfl⟩⟩; refine ⟨_, rfl, ?_⟩; have p171 : 0 ≤ ((ji10) : Int) := oda; have q171 : (ji10) < (l0.length : Int) := oda; obtain ⟨ad171, e171, hx171_0⟩ := Kd.at_int HR0.out (ji10) p171 q171; obtain rfl : ad169 = ad171 := (by injection e171); replace p171 := eq_true p171; replace q171 := eq_true q171))
           go_ret
           exact ⟨by first | rfl | (simp; done) | (simp only [← hji10] <;> (first | rfl | simp)) | (simp [*]; done), by repeat (first | exact Drawn0.refl _ | apply Drawn0.step)⟩
          ·rw [if_neg c13] at H
           have c13b0 : decide ((rd l0 x11_1) ≤ (rd l0 (ji10))) = false := decide_eq_false c13
           clear c13
           have H' := Aside0.mk H
           clear H
           have p169 : 0 ≤ (x11_1 : Int) := oda
           have q169 : x11_1 < (l0.length : Int) := oda
           obtain ⟨ad169, e169, hx169_0⟩ := Kd.at_int HR0.out x11_1 p169 q169
           cases e169
           replace p169 := eq_true p169
           replace q169 := eq_true q169
           go_wp2_with (first | ((with_reducible refine gate_callee (f := 45) rfl ?_); refine goesA_ (some 19) rfl rfl Tryd.func45 (by kernel_rfl) rfl #[.int .i64 (rd l0 x11_1), .int .i64 a1, .int .i64 a2] rfl ?_; (with_reducible refine (impl_within.calls (rd l0 x11_1) a1 a2 true _ A7.out).mono ?_); rintro e w' ⟨rfl, ⟨nd, rfl⟩⟩; refine ⟨_, rfl, ?_⟩; have p171 : 0 ≤ ((ji10) : Int) := oda; have q171 : (ji10) < (l0.length : Int) := oda; obtain ⟨ad171, e171, hx171_0⟩ := Kd.at_int HR0.out (ji10) p171 q171; obtain rfl : ad169 = ad171 := (by injection e171); replace p171 := eq_true p171; replace q171 := eq_true q171))
           go_roundg k1
           case measure => have := HK1.out; omega
           case rel => exact ⟨(wrap64 (x11_1 + 1)), (by first | rfl | (simp; done) | (simp [*]; done)), H', ⟨by have := HK1.out; omega⟩, by repeat (first | exact Drawn0.refl _ | apply Drawn0.step)⟩
         ·rw [if_neg c12] at H
          exact absurd H (by simp)
        ·rw [if_neg c11] at H
         exact absurd H (by simp)
       ·rw [if_neg c9] at H
        have c9b0 : decide (0 < x11_1) = false := decide_eq_false c9
        clear c9
        have H' := Aside0.mk H
        clear H
        have p169 : 0 ≤ (x11_1 : Int) := oda
        have q169 : x11_1 < (l0.length : Int) := oda
        obtain ⟨ad169, e169, hx169_0⟩ := Kd.at_int HR0.out x11_1 p169 q169
        cases e169
        replace p169 := eq_true p169
        replace q169 := eq_true q169
        go_wp2_with (first | ((with_reducible refine gate_callee (f := 45) rfl ?_); refine goesA_ (some 19) rfl rfl Tryd.func45 (by kernel_rfl) rfl #[.int .i64 (rd l0 x11_1), .int .i64 a1, .int .i64 a2] rfl ?_; (with_reducible refine (impl_within.calls (rd l0 x11_1) a1 a2 true _ A7.out).mono ?_); rintro e w' ⟨rfl, ⟨nd, rfl⟩⟩; refine ⟨_, rfl, ?_⟩))
        go_roundg k1
        case measure => have := HK1.out; omega
        case rel => exact ⟨(wrap64 (x11_1 + 1)), (by first | rfl | (simp; done) | (simp [*]; done)), H', ⟨by have := HK1.out; omega⟩, by repeat (first | exact Drawn0.refl _ | apply Drawn0.step)⟩
      ·replace c8 := Bool.eq_false_iff.mpr c8
       subst c8
       have H1 : (some false) = some r := by rw [if_neg (show ¬ (false = true) by decide)] at H; exact H
       clear H
       have H := H1
       clear H1
       obtain rfl := Option.some.inj H
       have p169 : 0 ≤ (x11_1 : Int) := oda
       have q169 : x11_1 < (l0.length : Int) := oda
       obtain ⟨ad169, e169, hx169_0⟩ := Kd.at_int HR0.out x11_1 p169 q169
       cases e169
       replace p169 := eq_true p169
       replace q169 := eq_true q169
       go_wp2_with (first | ((with_reducible refine gate_callee (f := 45) rfl ?_); refine goesA_ (some 19) rfl rfl Tryd.func45 (by kernel_rfl) rfl #[.int .i64 (rd l0 x11_1), .int .i64 a1, .int .i64 a2] rfl ?_; (with_reducible refine (impl_within.calls (rd l0 x11_1) a1 a2 false _ A7.out).mono ?_); rintro e w' ⟨rfl, ⟨nd, rfl⟩⟩; refine ⟨_, rfl, ?_⟩))
       go_ret
       exact ⟨by first | rfl | (simp; done) | (simp [*]; done), by repeat (first | exact Drawn0.refl _ | apply Drawn0.step)⟩
     ·rw [if_neg c6] at H
      exact absurd H (by simp)
    ·rw [if_neg c5] at H
     exact absurd H (by simp)
   ·rw [if_neg c4] at H
    have c4b0 : decide (x11_1 < (l0.length : Int)) = false := decide_eq_false c4
    clear c4
    obtain rfl := Option.some.inj H
    go_wp2
    go_ret
    exact ⟨by first | rfl | (simp; done) | (simp [*]; done), by repeat (first | exact Drawn0.refl _ | apply Drawn0.step)⟩
/-- isRising as a plain function, and what the machine does. -/
def risingFrom (lo hi : Int) : Option Int → List Int → Bool
  | _, [] => true
  | none, x :: r => inW x lo hi && risingFrom lo hi (some x) r
  | some p, x :: r => inW x lo hi && !decide (x ≤ p) && risingFrom lo hi (some x) r
def rising (l : List Int) (lo hi : Int) : Bool := risingFrom lo hi none l
def lastOf (x : List Int) (i : Nat) : Option Int := if i = 0 then none else some (x.getD (i - 1) 0)
theorem rising_l0 (x : List Int) (lo ub : Int) (hx : x.length ≤ 9223372036854775807) : ∀ (d i : Nat), i + d = x.length → Ev (fun k => impl_isRising.l0 k x lo ub x (x.length : Int) i) (risingFrom lo ub (lastOf x i) (x.drop i)) := by
  intro d
  induction d with
  | zero =>
    intro i hi
    refine Ev.step (f := fun _ => some _) (fun k => ?_) (Ev.now _)
    simp only [impl_isRising.l0]
    rw [if_neg (by omega), List.drop_of_length_le (l := x) (by omega)]
    cases lastOf x i <;> rfl
  | succ d ih =>
    intro i hi
    have hlt : i < x.length := by omega
    have e1 : x.drop i = x[i] :: x.drop (i + 1) := List.drop_eq_getElem_cons hlt
    have el : lastOf x (i + 1) = some x[i] := by
      unfold lastOf
      rw [if_neg (by omega), Nat.add_sub_cancel, List.getD_eq_getElem?_getD, List.getElem?_eq_getElem hlt]; rfl
    have ih1 := ih (i + 1) (by omega)
    rw [el] at ih1
    rw [e1]
    by_cases hw : inW x[i] lo ub = true
    · by_cases h0 : i = 0
      · subst h0
        have er : risingFrom lo ub (lastOf x 0) (x[0] :: x.drop 1) = risingFrom lo ub (some x[0]) (x.drop 1) := by
          show (inW x[0] lo ub && _) = _
          rw [hw]; rfl
        rw [er]
        refine Ev.step (fun k => ?_) ih1
        simp only [impl_isRising.l0]
        rw [if_pos (by omega), if_pos (by omega), if_pos (by omega), rd_get x 0 hlt, within_inW, hw, Option.bind_some, if_pos rfl, if_neg (by omega), wrap_next hlt (by omega)]
      · have hp : i - 1 < x.length := by omega
        have el0 : lastOf x i = some x[i - 1] := by
          unfold lastOf
          rw [if_neg h0, List.getD_eq_getElem?_getD, List.getElem?_eq_getElem hp]; rfl
        have ew : wrap64 ((i : Int) - 1) = ((i - 1 : Nat) : Int) := by unfold wrap64; omega
        rw [el0]
        by_cases hc : x[i] ≤ x[i - 1]
        · have er : risingFrom lo ub (some x[i - 1]) (x[i] :: x.drop (i + 1)) = false := by
            show (inW x[i] lo ub && _ && _) = _
            simp [hc]
          rw [er]
          refine Ev.step (f := fun _ => some _) (fun k => ?_) (Ev.now _)
          simp only [impl_isRising.l0]
          rw [if_pos (by omega), if_pos (by omega), if_pos (by omega), rd_get x i hlt, within_inW, hw, Option.bind_some, if_pos rfl, if_pos (by omega), ew, if_pos (by omega), if_pos (by omega), rd_get x (i - 1) hp, if_pos hc]
        · have er : risingFrom lo ub (some x[i - 1]) (x[i] :: x.drop (i + 1)) = risingFrom lo ub (some x[i]) (x.drop (i + 1)) := by
            show (inW x[i] lo ub && _ && _) = _
            simp [hc, hw]
          rw [er]
          refine Ev.step (fun k => ?_) ih1
          simp only [impl_isRising.l0]
          rw [if_pos (by omega), if_pos (by omega), if_pos (by omega), rd_get x i hlt, within_inW, hw, Option.bind_some, if_pos rfl, if_pos (by omega), ew, if_pos (by omega), if_pos (by omega), rd_get x (i - 1) hp, if_neg hc, wrap_next hlt (by omega)]
    · have er : risingFrom lo ub (lastOf x i) (x[i] :: x.drop (i + 1)) = false := by
        cases lastOf x i <;> simp [risingFrom, hw]
      rw [er]
      refine Ev.step (f := fun _ => some _) (fun k => ?_) (Ev.now _)
      simp only [impl_isRising.l0]
      rw [if_pos (by omega), if_pos (by omega), if_pos (by omega), rd_get x i hlt, within_inW, Option.bind_some, if_neg (by simpa using hw)]
theorem rising_ev (x : List Int) (lo hi : Int) (hx : x.length ≤ 9223372036854775807) : Ev (fun k => impl_isRising.f k x lo hi) (rising x lo hi) := by
  have := rising_l0 x lo hi hx x.length 0 (by omega)
  simpa [impl_isRising.f, rising, lastOf] using this
theorem rising_run (A0 : Option Addr) (c0 : Nat) (l0 : List Int) (lo hi : Int) (w : World) (hr0 : Kd.C (Kd.int .i64) w A0 l0.length l0) (hc0 : l0.length ≤ c0) :
    Calls Tryd.prog 85 #[.slice A0 l0.length c0, .int .i64 lo, .int .i64 hi] w fun e w' => e = .returned (.bool (rising l0 lo hi)) ∧ Drawn0 w w' := by
  obtain ⟨k, hk⟩ := (rising_ev l0 lo hi hr0.2.1).rounds
  exact impl_isRising.calls k A0 c0 l0 lo hi _ w hr0 hc0 hk
/-- What a net is, as a plain function. -/
def edgeBad (p : Int) (e : List Int) : Bool := !decide (e.length = 2) || !rising e 0 (wrap64 (p - 1))
/-! ### impl_IsNet: function 60 -/
-- EXTERNAL: by hand
-- impl_isRising slices_Compare_int64_int64 slices_IsSortedFunc_int64_int64
def isNetV (p : Int) (l : List (List Int)) : Bool := inW p 2 8 && !decide ((l.length : Int) > 10) && !l.any (edgeBad p) && sortedBy cmpL l
def impl_IsNet.f (a0_0 : Int) (l0_1 : List (List Int)) : Option Bool := some (isNetV a0_0 l0_1)
set_option maxHeartbeats 4000000 in
set_option maxRecDepth 100000 in
theorem isNetPred (B : Nat) (p : Int) (s : Value) (w : World) (hbox : w.heap[B]? = some (.cells #[.int .i64 p, s] 28 (0, 0))) :
    PredK Tryd.prog 84 #[.pointer (some ⟨B, 0, none⟩)] (Kd.slice 2 (Kd.int .i64)) (fun _ => True) (edgeBad p) w := by
  intro W x v _ hK hb
  obtain ⟨A, c, hv, hl, hC⟩ := hK
  simp only [List.cons.injEq, and_true] at hv
  subst hv
  show Calls Tryd.prog 84 #[.slice A x.length c, .pointer (some ⟨B, 0, none⟩)] W _
  have hc0 : W.cell? ⟨B, 0, none⟩ = some (.int .i64 p) := (blk_cell (blk_below hbox hb) 0).trans rfl
  have HR := fun W' hb' => rising_run A c x 0 (wrap64 (p - 1)) W' (Kd.C_below hC hb') hl
  clear hC hbox hb
  unfold edgeBad
  have hu := Tryd.underlying28
  by_cases h2 : x.length = 2
  · have hb2 : (x.length : Int) = 2 := by omega
    have hne : ((x.length : Int) != 2) = false := bne_eq_false_iff_eq.mpr hb2
    have hne2 : (x.length == 2) = true := beq_iff_eq.mpr h2
    have HD := Aside0.mk (decide_eq_true h2)
    have HB := Aside0.mk (Below.refl W.heap.size W)
    clear h2 hb2
    generalize rising x 0 (wrap64 (p - 1)) = b at HR ⊢
    go_enter Tryd.func84, Tryd.ntmps84
    go_wp2_with fail
    refine (HR _ HB.out).mono ?_; rintro e w1 ⟨rfl, hd⟩; have HB1 := Aside0.mk (below_step HB.out hd.below); clear hd
    go_wp2_with fail
    go_ret
    exact ⟨by rw [HD.out]; rfl, HB1.out⟩
  · have hb2 : ¬ (x.length : Int) = 2 := by omega
    have hne : ((x.length : Int) != 2) = true := bne_iff_ne.mpr hb2
    have hne2 : (x.length == 2) = false := beq_eq_false_iff_ne.mpr h2
    have HD := Aside0.mk (decide_eq_false h2)
    clear h2 hb2 HR
    generalize rising x 0 (wrap64 (p - 1)) = b
    go_enter Tryd.func84, Tryd.ntmps84
    go_wp2_with fail
    go_ret
    exact ⟨by rw [HD.out]; rfl, Below.refl _ _⟩
set_option maxHeartbeats 4000000 in
set_option maxRecDepth 100000 in
theorem impl_IsNet.calls (a0_0 : Int) (A0_1 : Option Addr) (c0_1 : Nat) (l0_1 : List (List Int)) (r : Bool) (w : World) (hr0_1 : Kd.C (Kd.slice 2 (Kd.int .i64)) w A0_1 l0_1.length l0_1) (hc0_1 : l0_1.length ≤ c0_1) (h : impl_IsNet.f a0_0 l0_1 = some r) :
    Calls Tryd.prog 60 #[.agg #[.int .i64 a0_0, .slice A0_1 l0_1.length c0_1]] w fun e w' => e = .returned (.bool r) ∧ Below w.heap.size w w' := by
  have eg : ∀ args w, (callFunc 84 args).run Tryd.prog w = .ok (.enter 84 args) w := enters_of Tryd.func84 (by kernel_rfl) rfl
  obtain rfl := Option.some.inj h
  clear h
  have HR := Aside0.mk hr0_1
  have hm := hr0_1.2.1
  clear hr0_1
  have hu := Tryd.underlying28
  have HI := fun W hb => slices_IsSortedFunc_int64_int64.calls A0_1 c0_1 l0_1 W (Kd.C_below HR.out hb) hc0_1
  have HC := fun (g : Nat) W (hbox : W.heap[g]? = some (.cells #[.int .i64 a0_0, .slice A0_1 l0_1.length c0_1] 28 (0, 0))) hb => slices_ContainsFunc_int64_int64_83.calls 84 #[.pointer (some ⟨g, 0, none⟩)] (fun _ => True) (edgeBad a0_0) eg A0_1 c0_1 l0_1 W (isNetPred g a0_0 _ W hbox) (fun _ _ => trivial) (Kd.C_below HR.out hb) hm
  have HB0 := Aside0.mk (Below.refl w.heap.size w)
  unfold isNetV
  generalize hb1 : inW a0_0 2 8 = b1 at *
  generalize hb3 : l0_1.any (edgeBad a0_0) = b3 at *
  generalize hb4 : sortedBy cmpL l0_1 = b4 at *
  have HW := Aside0.mk hb1
  clear hb1 hb3 hb4
  cases b1 with
  | false =>
    clear HI HC
    go_enter Tryd.func60, Tryd.ntmps60
    go_wp2_with (first | ((with_reducible refine gate_dst (N := 1) rfl ?_); refine box_event ?hg (N := 1) ?hd (cs := #[.int .i64 a0_0, .slice A0_1 l0_1.length c0_1]) (t := 28) ?hr ?_; (case hd => rfl); (case hg => rfl); (case hr => first | (go_simp; done) | (go_simp; rfl)); intro gb hgb w1 hbox hb; have HB1 := Aside0.mk (below_step HB0.out hb); have hc0 := (blk_cell hbox 0).trans rfl; have hc1 := (blk_cell hbox 1).trans rfl; have HX := Aside0.mk hbox; clear hb hbox hgb))
    refine (within_run _ _ _ _).mono ?_; rintro e w2 ⟨rfl, hd⟩; have HB2 := Aside0.mk (below_step HB1.out hd.below); clear hd
    rw [HW.out]
    go_wp2_with fail
    go_ret
    exact ⟨rfl, HB2.out⟩
  | true =>
    by_cases h10 : (l0_1.length : Int) > 10
    · have h10b : decide ((10 : Int) < (l0_1.length : Int)) = true := decide_eq_true h10
      have h10c : decide (10 < l0_1.length) = true := decide_eq_true (by omega)
      have HT := Aside0.mk (decide_eq_true h10)
      clear HI HC h10
      go_enter Tryd.func60, Tryd.ntmps60
      go_wp2_with (first | ((with_reducible refine gate_dst (N := 1) rfl ?_); refine box_event ?hg (N := 1) ?hd (cs := #[.int .i64 a0_0, .slice A0_1 l0_1.length c0_1]) (t := 28) ?hr ?_; (case hd => rfl); (case hg => rfl); (case hr => first | (go_simp; done) | (go_simp; rfl)); intro gb hgb w1 hbox hb; have HB1 := Aside0.mk (below_step HB0.out hb); have hc0 : w1.cell? ⟨gb, 0, none⟩ = some (.int .i64 a0_0) := (blk_cell hbox 0).trans rfl; have hc1 : w1.cell? ⟨gb, 1, none⟩ = some (.slice A0_1 l0_1.length c0_1) := (blk_cell hbox 1).trans rfl; have HX := Aside0.mk hbox; clear hb hbox hgb))
      refine (within_run _ _ _ _).mono ?_; rintro e w2 ⟨rfl, hd⟩; have HBd := Aside0.mk hd.below; have HB2 := Aside0.mk (below_step HB1.out hd.below); clear hd
      have hc2 : w2.cell? ⟨gb, 1, none⟩ = some (.slice A0_1 l0_1.length c0_1) := (HBd.out.cell (World.block_lt_of_cell? w1 _ hc1)).trans hc1; have HX2 := Aside0.mk (blk_below HX.out HBd.out)
      rw [HW.out]
      go_wp2_with fail
      go_ret
      exact ⟨by rw [HT.out]; rfl, HB2.out⟩
    · have h10b : decide ((10 : Int) < (l0_1.length : Int)) = false := decide_eq_false h10
      have h10c : decide (10 < l0_1.length) = false := decide_eq_false (by omega)
      have HT := Aside0.mk (decide_eq_false h10)
      clear h10
      cases b3 with
      | true =>
        clear HI
        go_enter Tryd.func60, Tryd.ntmps60
        go_wp2_with (first | ((with_reducible refine gate_dst (N := 1) rfl ?_); refine box_event ?hg (N := 1) ?hd (cs := #[.int .i64 a0_0, .slice A0_1 l0_1.length c0_1]) (t := 28) ?hr ?_; (case hd => rfl); (case hg => rfl); (case hr => first | (go_simp; done) | (go_simp; rfl)); intro gb hgb w1 hbox hb; have HB1 := Aside0.mk (below_step HB0.out hb); have hc0 : w1.cell? ⟨gb, 0, none⟩ = some (.int .i64 a0_0) := (blk_cell hbox 0).trans rfl; have hc1 : w1.cell? ⟨gb, 1, none⟩ = some (.slice A0_1 l0_1.length c0_1) := (blk_cell hbox 1).trans rfl; have HX := Aside0.mk hbox; clear hb hbox hgb))
        refine (within_run _ _ _ _).mono ?_; rintro e w2 ⟨rfl, hd⟩; have HBd := Aside0.mk hd.below; have HB2 := Aside0.mk (below_step HB1.out hd.below); clear hd
        have hc2 : w2.cell? ⟨gb, 1, none⟩ = some (.slice A0_1 l0_1.length c0_1) := (HBd.out.cell (World.block_lt_of_cell? w1 _ hc1)).trans hc1; have HX2 := Aside0.mk (blk_below HX.out HBd.out)
        rw [HW.out]
        go_wp2_with fail
        refine (HC gb _ HX2.out HB2.out).mono ?_; rintro e w3 ⟨rfl, hd⟩; have HB3 := Aside0.mk (below_step HB2.out hd); clear hd
        go_wp2_with fail
        go_ret
        exact ⟨by rw [HT.out]; rfl, HB3.out⟩
      | false =>
        go_enter Tryd.func60, Tryd.ntmps60
        go_wp2_with (first | ((with_reducible refine gate_dst (N := 1) rfl ?_); refine box_event ?hg (N := 1) ?hd (cs := #[.int .i64 a0_0, .slice A0_1 l0_1.length c0_1]) (t := 28) ?hr ?_; (case hd => rfl); (case hg => rfl); (case hr => first | (go_simp; done) | (go_simp; rfl)); intro gb hgb w1 hbox hb; have HB1 := Aside0.mk (below_step HB0.out hb); have hc0 : w1.cell? ⟨gb, 0, none⟩ = some (.int .i64 a0_0) := (blk_cell hbox 0).trans rfl; have hc1 : w1.cell? ⟨gb, 1, none⟩ = some (.slice A0_1 l0_1.length c0_1) := (blk_cell hbox 1).trans rfl; have HX := Aside0.mk hbox; clear hb hbox hgb))
        refine (within_run _ _ _ _).mono ?_; rintro e w2 ⟨rfl, hd⟩; have HBd := Aside0.mk hd.below; have HB2 := Aside0.mk (below_step HB1.out hd.below); clear hd
        have hc2 : w2.cell? ⟨gb, 1, none⟩ = some (.slice A0_1 l0_1.length c0_1) := (HBd.out.cell (World.block_lt_of_cell? w1 _ hc1)).trans hc1; have HX2 := Aside0.mk (blk_below HX.out HBd.out)
        rw [HW.out]
        go_wp2_with fail
        refine (HC gb _ HX2.out HB2.out).mono ?_; rintro e w3 ⟨rfl, hd⟩; have HB3 := Aside0.mk (below_step HB2.out hd)
        have hc3 : w3.cell? ⟨gb, 1, none⟩ = some (.slice A0_1 l0_1.length c0_1) := (hd.cell (World.block_lt_of_cell? w2 _ hc2)).trans hc2
        clear hd
        go_wp2_with fail
        refine (HI _ HB3.out).mono ?_; rintro e w4 ⟨rfl, hd⟩; have HB4 := Aside0.mk (below_step HB3.out hd.below); clear hd
        go_wp2_with fail
        go_ret
        exact ⟨by rw [HT.out]; cases b4 <;> rfl, HB4.out⟩
/-! ### impl_stateOfCode: function 35 -/
def impl_stateOfCode.f (k : Nat) (a0_0 : Int) (l0_1 : List (List Int)) (a1 : ByteArray) : Option (Int) := if (a1.size : Int) = (l0_1.length : Int) then ((strings_Trim.f a1 (⟨#[46, 115, 99]⟩ : ByteArray)).bind fun t178 => ((impl_IsNet.f a0_0 l0_1).bind fun t179 => ((impl_first.f k (([(⟨t179, 1⟩ : S71), (⟨(t178.toList == ([] : List UInt8)), 2⟩ : S71)] : List (S71)))).bind fun t183 => (some t183)))) else ((impl_IsNet.f a0_0 l0_1).bind fun t184 => ((impl_first.f k (([(⟨t184, 1⟩ : S71), (⟨false, 2⟩ : S71)] : List (S71)))).bind fun t188 => (some t188)))
set_option maxHeartbeats 8000000 in
set_option maxRecDepth 100000 in
theorem impl_stateOfCode.calls (k : Nat) (a0_0 : Int) (A0_1 : Option Addr) (c0_1 : Nat) (l0_1 : List (List Int)) (a1 : ByteArray) (r : Int) (w : World) (hr0_1 : Kd.C (Kd.slice 2 (Kd.int .i64)) w A0_1 l0_1.length l0_1) (hc0_1 : l0_1.length ≤ c0_1) (h : impl_stateOfCode.f k a0_0 l0_1 a1 = some r) :
  Calls Tryd.prog 35 #[.agg #[.int .i64 a0_0, .slice A0_1 l0_1.length c0_1], .string a1] w fun e w' => e = .returned (.int .i64 r) ∧ Below w.heap.size w w' := by
 have hu28 := Tryd.underlying28
 have hu71 := Tryd.underlying71
 have HR0_1 := Aside0.mk hr0_1
 have HC0_1 := Aside0.mk hc0_1
 clear hr0_1 hc0_1
 have HB := Aside0.mk (Below.refl w.heap.size w)
 have H : (if (a1.size : Int) = (l0_1.length : Int) then ((strings_Trim.f a1 (⟨#[46, 115, 99]⟩ : ByteArray)).bind fun t178 => ((impl_IsNet.f a0_0 l0_1).bind fun t179 => ((impl_first.f k (([(⟨t179, 1⟩ : S71), (⟨(t178.toList == ([] : List UInt8)), 2⟩ : S71)] : List (S71)))).bind fun t183 => (some t183)))) else ((impl_IsNet.f a0_0 l0_1).bind fun t184 => ((impl_first.f k (([(⟨t184, 1⟩ : S71), (⟨false, 2⟩ : S71)] : List (S71)))).bind fun t188 => (some t188)))) = some r := h
 clear h
 by_cases c3 : (a1.size : Int) = (l0_1.length : Int)
 ·rw [if_pos c3] at H
  have c3b0 : ((a1.size : Int) == (l0_1.length : Int)) = true := beq_iff_eq.mpr c3
  have c3b1 : ((a1.size : Int) != (l0_1.length : Int)) = false := bne_eq_false_iff_eq.mpr c3
  have c3b2 : (a1.size == l0_1.length) = true := by first | simpa using c3 | (simp at c3 ⊢; omega)
  clear c3
  replace H := Option.bind_eq_some_iff.mp H
  obtain ⟨t178, A40, H⟩ := H
  replace H : ((impl_IsNet.f a0_0 l0_1).bind fun t179 => ((impl_first.f k (([(⟨t179, 1⟩ : S71), (⟨(t178.toList == ([] : List UInt8)), 2⟩ : S71)] : List (S71)))).bind fun t183 => (some t183))) = some r := H
  have A4 := Aside0.mk A40
  clear A40
  replace H := Option.bind_eq_some_iff.mp H
  obtain ⟨t179, A50, H⟩ := H
  replace H : ((impl_first.f k (([(⟨t179, 1⟩ : S71), (⟨(t178.toList == ([] : List UInt8)), 2⟩ : S71)] : List (S71)))).bind fun t183 => (some t183)) = some r := H
  have A5 := Aside0.mk A50
  clear A50
  obtain ⟨y180, hy180⟩ : ∃ y_ : List (S71), y_ = (([(⟨t179, 1⟩ : S71), (⟨(t178.toList == ([] : List UInt8)), 2⟩ : S71)] : List (S71))) := ⟨_, rfl⟩
  replace H : ((impl_first.f k y180).bind fun t183 => (some t183)) = some r := by first | (rw [hy180]; with_reducible exact H) | (have H2_ := (Option.bind_some _ _).symm.trans H; rw [hy180]; with_reducible exact H2_) | (have H2_ := (Option.bind_some _ _).symm.trans H; with_reducible exact H2_) | with_reducible exact H | (rw [hy180]; exact H) | exact H
  have Ny180 := Aside0.mk hy180
  clear hy180
  replace H := Option.bind_eq_some_iff.mp H
  obtain ⟨t183, A60, H⟩ := H
  replace H : (some t183) = some r := H
  have A6 := Aside0.mk A60
  clear A60
  obtain rfl := Option.some.inj H
  go_enter Tryd.func35, Tryd.ntmps35
  go_wp2_with (first | ((with_reducible refine gate_dst (N := 2) rfl ?_); refine box_event ?hg (N := 2) ?hd (cs := #[.int .i64 a0_0, .slice A0_1 l0_1.length c0_1]) (t := 28) ?hr ?_; (case hd => rfl); (case hg => rfl); (case hr => first | (go_simp; done) | (go_simp; rfl)); intro gb177 hg w7 hbox hb; have n0_ := Aside0.mk (below_step hb_ hb); have n1_ := Aside0.mk (hbox); have n2_ := Aside0.mk ((by rw [hg]; exact (below_size hb_) : w.heap.size ≤ gb177)); have n3_ := Aside0.mk ((by rw [hg]; exact (below_size hb_) : w.heap.size ≤ gb177)); clear HB; have HB := n0_; have BK177 := n1_; have GW177 := n2_; have GE177 := n3_; clear n0_ n1_ n2_ n3_; clear hb hbox hg; have hcz8_0 : w7.cell? ⟨gb177, 0, none⟩ = some (.int .i64 a0_0) := (blk_cell BK177.out 0).trans rfl; have hcz8_1 : w7.cell? ⟨gb177, 1, none⟩ = some (.slice A0_1 l0_1.length c0_1) := (blk_cell BK177.out 1).trans rfl; have hfz8_0 := blk_frozen BK177.out 0; have hfz8_1 := blk_frozen BK177.out 1) | (go_at_call 59; (with_reducible refine (strings_Trim.calls a1 (⟨#[46, 115, 99]⟩ : ByteArray) t178 _ A4.out).mono ?_); rintro e w9 ⟨rfl, hb⟩; have n0_ := Aside0.mk (blk_below (g := gb177) (o := .cells #[.int .i64 a0_0, .slice A0_1 l0_1.length c0_1] 28 (0, 0)) (by (with_reducible repeat (first | refine blk_drewN ?_ _ | refine blk_drew ?_ | refine blk_alloc ?_ _)); exact BK177.out) hb); have n1_ := Aside0.mk (below_step (by repeat (first | (with_reducible first | exact HB.out | apply below_alloc | apply pw_below_drewN | apply below_drew1 | refine below_set ?_ GE177.out) | exact HB.out)) hb); clear BK177; clear HB; have BK177 := n0_; have HB := n1_; clear n0_ n1_; (try clear hb); (try clear hb2); (try clear hk); (try clear hi); have hcz10_0 : w9.cell? ⟨gb177, 0, none⟩ = some (.int .i64 a0_0) := (blk_cell BK177.out 0).trans rfl; have hcz10_1 : w9.cell? ⟨gb177, 1, none⟩ = some (.slice A0_1 l0_1.length c0_1) := (blk_cell BK177.out 1).trans rfl; have hfz10_0 := blk_frozen BK177.out 0; have hfz10_1 := blk_frozen BK177.out 1) | ((with_reducible refine gate_callee (f := 60) rfl ?_); refine goesA_ (some 18) rfl rfl Tryd.func60 (by kernel_rfl) rfl #[.agg #[.int .i64 a0_0, .slice A0_1 l0_1.length c0_1]] rfl ?_; (with_reducible refine (impl_IsNet.calls a0_0 _ _ l0_1 t179 _ ?side1 ?side2 A5.out).mono ?_); (case side1 => repeat (first | exact (Kd.C_below HR0_1.out HB.out) | (with_reducible refine Kd.C_alloc ?_ _) | (with_reducible refine Kd.C_drewN ?_ _) | (with_reducible refine Kd.C_drew ?_))); (case side2 => exact HC0_1.out); rintro e w11 ⟨rfl, hb⟩; refine ⟨_, rfl, ?_⟩; have n0_ := Aside0.mk (blk_below (g := gb177) (o := .cells #[.int .i64 a0_0, .slice A0_1 l0_1.length c0_1] 28 (0, 0)) (by (with_reducible repeat (first | refine blk_drewN ?_ _ | refine blk_drew ?_ | refine blk_alloc ?_ _)); exact BK177.out) hb); have n1_ := Aside0.mk (below_step (by repeat (first | (with_reducible first | exact HB.out | apply below_alloc | apply pw_below_drewN | apply below_drew1 | refine below_set ?_ GE177.out) | exact HB.out)) hb); clear BK177; clear HB; have BK177 := n0_; have HB := n1_; clear n0_ n1_; (try clear hb); (try clear hb2); (try clear hk); (try clear hi)) | ((with_reducible refine gate_dst (N := 22) rfl ?_); refine Kd.R_lit k71 _ 71 ?hg (N := 22) ?hd (xs := ([(⟨t179, 1⟩ : S71), (⟨(t178.toList == ([] : List UInt8)), 2⟩ : S71)] : List (S71))) (inner := [.bool t179, .int .i64 1, .bool (t178.toList == ([] : List UInt8)), .int .i64 2]) (ok := fun _ => True) (okp := fun _ => True) ?hr ?hp (fun _ hk => hk) trivial (Below.refl _ _) (Nat.le_refl _) (by simp) ?_; (case hd => rfl); (case hg => rfl); (case hr => first | (go_simp; done) | (go_simp; rfl)); (case hp => exact (Reps.c2 (show Kd.M k71 _ _ _ (⟨t179, 1⟩ : S71) [.bool t179, .int .i64 1] from (k71_mkM _ _ _ (⟨t179, 1⟩ : S71) )) (Reps.c2 (show Kd.M k71 _ _ _ (⟨(t178.toList == ([] : List UInt8)), 2⟩ : S71) [.bool (t178.toList == ([] : List UInt8)), .int .i64 2] from (k71_mkM _ _ _ (⟨(t178.toList == ([] : List UInt8)), 2⟩ : S71) )) (Reps.none _ _)))); intro v181 w12 ho13 hb hg_ hnew_; clear hg_ hnew_; (first | rw [← Ny180.out] at ho13 | (simp only [Int.reduceToNat] at ho13; rw [← Ny180.out] at ho13)); have n0_ := Aside0.mk (Kd.R_lower ho13 (below_size (by repeat (first | (with_reducible first | exact HB.out | apply below_alloc | apply pw_below_drewN | apply below_drew1 | refine below_set ?_ GE177.out) | exact HB.out)))); have n1_ := Aside0.mk (blk_below (g := gb177) (o := .cells #[.int .i64 a0_0, .slice A0_1 l0_1.length c0_1] 28 (0, 0)) (by (with_reducible repeat (first | refine blk_drewN ?_ _ | refine blk_drew ?_ | refine blk_alloc ?_ _)); exact BK177.out) hb); have n2_ := Aside0.mk (below_step (by repeat (first | (with_reducible first | exact HB.out | apply below_alloc | apply pw_below_drewN | apply below_drew1 | refine below_set ?_ GE177.out) | exact HB.out)) hb); clear BK177; clear HB; have HO182 := n0_; have BK177 := n1_; have HB := n2_; clear n0_ n1_ n2_; clear hb ho13; obtain ⟨Ao14, co14, eo14⟩ := Kd.R_slice HO182.out; subst eo14) | ((with_reducible refine gate_callee (f := 44) rfl ?_); refine goesA_ (some 23) rfl rfl Tryd.func44 (by kernel_rfl) rfl #[.slice Ao14 y180.length co14] rfl ?_; (with_reducible refine (impl_first.calls k _ _ y180 t183 _ ?side1 ?side2 A6.out).mono ?_); (case side1 => repeat (first | exact (Kd.R_reads' HO182.out).2.2 | (with_reducible refine Kd.C_alloc ?_ _) | (with_reducible refine Kd.C_drewN ?_ _) | (with_reducible refine Kd.C_drew ?_))); (case side2 => exact (Kd.R_reads' HO182.out).2.1); rintro e w15 ⟨rfl, hb⟩; refine ⟨_, rfl, ?_⟩; have n0_ := Aside0.mk (Kd.R_below (by (with_reducible repeat (first | apply Kd.R_alloc | apply Kd.R_drewN | apply Kd.R_drew)); exact HO182.out) hb); have n1_ := Aside0.mk (blk_below (g := gb177) (o := .cells #[.int .i64 a0_0, .slice A0_1 l0_1.length c0_1] 28 (0, 0)) (by (with_reducible repeat (first | refine blk_drewN ?_ _ | refine blk_drew ?_ | refine blk_alloc ?_ _)); exact BK177.out) hb); have n2_ := Aside0.mk (below_step (by repeat (first | (with_reducible first | exact HB.out | apply below_alloc | apply pw_below_drewN | apply below_drew1 | refine below_set ?_ GE177.out) | exact HB.out)) hb); clear HO182; clear BK177; clear HB; have HO182 := n0_; have BK177 := n1_; have HB := n2_; clear n0_ n1_ n2_; (try clear hb); (try clear hb2); (try clear hk); (try clear hi)))
  go_ret
  exact ⟨by first | rfl | (simp [errW_none, errW_some] <;> rfl) | (simp [*, errW_none, errW_some] <;> rfl), by repeat (first | (with_reducible first | exact HB.out | apply below_alloc | apply pw_below_drewN | apply below_drew1 | refine below_set ?_ GE177.out) | exact HB.out)⟩
 ·rw [if_neg c3] at H
  have c3b0 : ((a1.size : Int) == (l0_1.length : Int)) = false := beq_eq_false_iff_ne.mpr c3
  have c3b1 : ((a1.size : Int) != (l0_1.length : Int)) = true := bne_iff_ne.mpr c3
  have c3b2 : (a1.size == l0_1.length) = false := by first | simpa using c3 | (simp at c3 ⊢; omega)
  replace H := Option.bind_eq_some_iff.mp H
  obtain ⟨t184, A160, H⟩ := H
  replace H : ((impl_first.f k (([(⟨t184, 1⟩ : S71), (⟨false, 2⟩ : S71)] : List (S71)))).bind fun t188 => (some t188)) = some r := H
  have A16 := Aside0.mk A160
  clear A160
  obtain ⟨y185, hy185⟩ : ∃ y_ : List (S71), y_ = (([(⟨t184, 1⟩ : S71), (⟨false, 2⟩ : S71)] : List (S71))) := ⟨_, rfl⟩
  replace H : ((impl_first.f k y185).bind fun t188 => (some t188)) = some r := by first | (rw [hy185]; with_reducible exact H) | (have H2_ := (Option.bind_some _ _).symm.trans H; rw [hy185]; with_reducible exact H2_) | (have H2_ := (Option.bind_some _ _).symm.trans H; with_reducible exact H2_) | with_reducible exact H | (rw [hy185]; exact H) | exact H
  have Ny185 := Aside0.mk hy185
  clear hy185
  replace H := Option.bind_eq_some_iff.mp H
  obtain ⟨t188, A170, H⟩ := H
  replace H : (some t188) = some r := H
  have A17 := Aside0.mk A170
  clear A170
  obtain rfl := Option.some.inj H
  go_enter Tryd.func35, Tryd.ntmps35
  go_wp2_with (first | ((with_reducible refine gate_dst (N := 2) rfl ?_); refine box_event ?hg (N := 2) ?hd (cs := #[.int .i64 a0_0, .slice A0_1 l0_1.length c0_1]) (t := 28) ?hr ?_; (case hd => rfl); (case hg => rfl); (case hr => first | (go_simp; done) | (go_simp; rfl)); intro gb177 hg w18 hbox hb; have n0_ := Aside0.mk (below_step hb_ hb); have n1_ := Aside0.mk (hbox); have n2_ := Aside0.mk ((by rw [hg]; exact (below_size hb_) : w.heap.size ≤ gb177)); have n3_ := Aside0.mk ((by rw [hg]; exact (below_size hb_) : w.heap.size ≤ gb177)); clear HB; have HB := n0_; have BK177 := n1_; have GW177 := n2_; have GE177 := n3_; clear n0_ n1_ n2_ n3_; clear hb hbox hg; have hcz19_0 : w18.cell? ⟨gb177, 0, none⟩ = some (.int .i64 a0_0) := (blk_cell BK177.out 0).trans rfl; have hcz19_1 : w18.cell? ⟨gb177, 1, none⟩ = some (.slice A0_1 l0_1.length c0_1) := (blk_cell BK177.out 1).trans rfl; have hfz19_0 := blk_frozen BK177.out 0; have hfz19_1 := blk_frozen BK177.out 1) | ((with_reducible refine gate_callee (f := 60) rfl ?_); refine goesA_ (some 18) rfl rfl Tryd.func60 (by kernel_rfl) rfl #[.agg #[.int .i64 a0_0, .slice A0_1 l0_1.length c0_1]] rfl ?_; (with_reducible refine (impl_IsNet.calls a0_0 _ _ l0_1 t184 _ ?side1 ?side2 A16.out).mono ?_); (case side1 => repeat (first | exact (Kd.C_below HR0_1.out HB.out) | (with_reducible refine Kd.C_alloc ?_ _) | (with_reducible refine Kd.C_drewN ?_ _) | (with_reducible refine Kd.C_drew ?_))); (case side2 => exact HC0_1.out); rintro e w20 ⟨rfl, hb⟩; refine ⟨_, rfl, ?_⟩; have n0_ := Aside0.mk (blk_below (g := gb177) (o := .cells #[.int .i64 a0_0, .slice A0_1 l0_1.length c0_1] 28 (0, 0)) (by (with_reducible repeat (first | refine blk_drewN ?_ _ | refine blk_drew ?_ | refine blk_alloc ?_ _)); exact BK177.out) hb); have n1_ := Aside0.mk (below_step (by repeat (first | (with_reducible first | exact HB.out | apply below_alloc | apply pw_below_drewN | apply below_drew1 | refine below_set ?_ GE177.out) | exact HB.out)) hb); clear BK177; clear HB; have BK177 := n0_; have HB := n1_; clear n0_ n1_; (try clear hb); (try clear hb2); (try clear hk); (try clear hi)) | ((with_reducible refine gate_dst (N := 22) rfl ?_); refine Kd.R_lit k71 _ 71 ?hg (N := 22) ?hd (xs := ([(⟨t184, 1⟩ : S71), (⟨false, 2⟩ : S71)] : List (S71))) (inner := [.bool t184, .int .i64 1, .bool false, .int .i64 2]) (ok := fun _ => True) (okp := fun _ => True) ?hr ?hp (fun _ hk => hk) trivial (Below.refl _ _) (Nat.le_refl _) (by simp) ?_; (case hd => rfl); (case hg => rfl); (case hr => first | (go_simp; done) | (go_simp; rfl)); (case hp => exact (Reps.c2 (show Kd.M k71 _ _ _ (⟨t184, 1⟩ : S71) [.bool t184, .int .i64 1] from (k71_mkM _ _ _ (⟨t184, 1⟩ : S71) )) (Reps.c2 (show Kd.M k71 _ _ _ (⟨false, 2⟩ : S71) [.bool false, .int .i64 2] from (k71_mkM _ _ _ (⟨false, 2⟩ : S71) )) (Reps.none _ _)))); intro v186 w21 ho22 hb hg_ hnew_; clear hg_ hnew_; (first | rw [← Ny185.out] at ho22 | (simp only [Int.reduceToNat] at ho22; rw [← Ny185.out] at ho22)); have n0_ := Aside0.mk (Kd.R_lower ho22 (below_size (by repeat (first | (with_reducible first | exact HB.out | apply below_alloc | apply pw_below_drewN | apply below_drew1 | refine below_set ?_ GE177.out) | exact HB.out)))); have n1_ := Aside0.mk (blk_below (g := gb177) (o := .cells #[.int .i64 a0_0, .slice A0_1 l0_1.length c0_1] 28 (0, 0)) (by (with_reducible repeat (first | refine blk_drewN ?_ _ | refine blk_drew ?_ | refine blk_alloc ?_ _)); exact BK177.out) hb); have n2_ := Aside0.mk (below_step (by repeat (first | (with_reducible first | exact HB.out | apply below_alloc | apply pw_below_drewN | apply below_drew1 | refine below_set ?_ GE177.out) | exact HB.out)) hb); clear BK177; clear HB; have HO187 := n0_; have BK177 := n1_; have HB := n2_; clear n0_ n1_ n2_; clear hb ho22; obtain ⟨Ao23, co23, eo23⟩ := Kd.R_slice HO187.out; subst eo23) | ((with_reducible refine gate_callee (f := 44) rfl ?_); refine goesA_ (some 23) rfl rfl Tryd.func44 (by kernel_rfl) rfl #[.slice Ao23 y185.length co23] rfl ?_; (with_reducible refine (impl_first.calls k _ _ y185 t188 _ ?side1 ?side2 A17.out).mono ?_); (case side1 => repeat (first | exact (Kd.R_reads' HO187.out).2.2 | (with_reducible refine Kd.C_alloc ?_ _) | (with_reducible refine Kd.C_drewN ?_ _) | (with_reducible refine Kd.C_drew ?_))); (case side2 => exact (Kd.R_reads' HO187.out).2.1); rintro e w24 ⟨rfl, hb⟩; refine ⟨_, rfl, ?_⟩; have n0_ := Aside0.mk (Kd.R_below (by (with_reducible repeat (first | apply Kd.R_alloc | apply Kd.R_drewN | apply Kd.R_drew)); exact HO187.out) hb); have n1_ := Aside0.mk (blk_below (g := gb177) (o := .cells #[.int .i64 a0_0, .slice A0_1 l0_1.length c0_1] 28 (0, 0)) (by (with_reducible repeat (first | refine blk_drewN ?_ _ | refine blk_drew ?_ | refine blk_alloc ?_ _)); exact BK177.out) hb); have n2_ := Aside0.mk (below_step (by repeat (first | (with_reducible first | exact HB.out | apply below_alloc | apply pw_below_drewN | apply below_drew1 | refine below_set ?_ GE177.out) | exact HB.out)) hb); clear HO187; clear BK177; clear HB; have HO187 := n0_; have BK177 := n1_; have HB := n2_; clear n0_ n1_ n2_; (try clear hb); (try clear hb2); (try clear hk); (try clear hi)))
  go_ret
  exact ⟨by first | rfl | (simp [errW_none, errW_some] <;> rfl) | (simp [*, errW_none, errW_some] <;> rfl), by repeat (first | (with_reducible first | exact HB.out | apply below_alloc | apply pw_below_drewN | apply below_drew1 | refine below_set ?_ GE177.out) | exact HB.out)⟩
/-! ### impl_Net_reached: function 61 -/
-- EXTERNAL: by hand
-- slices_ContainsFunc_int64_int64_66
def netOwn (e : List Int) : Int := Go.bits .or .i64 (shl .i64 1 (rd e 0)) (shl .i64 1 (rd e 1))
mutual
def impl_Net_reached.l0 : Nat → (Int → Bool) → List (List Int) → Int → Int → Option Int
  | 0, _, _, _, _ => none
  | k + 1, acc, l, before, out => if before = out then some out else impl_Net_reached.l1 k acc l out out 0
def impl_Net_reached.l1 : Nat → (Int → Bool) → List (List Int) → Int → Int → Nat → Option Int
  | 0, _, _, _, _, _ => none
  | k + 1, acc, l, before, out, i => if i < l.length then (if acc (i : Int) = true then (if Go.bits .and .i64 out (netOwn (rd_L1 l i)) = 0 then impl_Net_reached.l1 k acc l before out (i + 1) else impl_Net_reached.l1 k acc l before (Go.bits .or .i64 out (netOwn (rd_L1 l i))) (i + 1)) else impl_Net_reached.l1 k acc l before out (i + 1)) else impl_Net_reached.l0 k acc l before out
end
theorem shl1_w {x j : Int} (h : shl .i64 1 x = j) : wrap64 (2 ^ min x.toNat 64) = j := by
  have h1 : IntKind.i64.wrap (1 * 2 ^ min x.toNat 64) = j := h
  rw [Int.one_mul] at h1
  exact (i64_w _).symm.trans h1
theorem shl1_u {x j : Int} (h : shl .i64 1 x = j) : IntKind.i64.wrap (2 ^ min x.toNat 64) = j := by
  have h1 : IntKind.i64.wrap (1 * 2 ^ min x.toNat 64) = j := h
  rw [Int.one_mul] at h1
  exact h1
set_option maxHeartbeats 2000000 in
set_option maxRecDepth 100000 in
theorem impl_Net_reached.calls (g : Nat) (lb : Array Value) (acc : Int → Bool) (eg : ∀ args w, (callFunc g args).run Tryd.prog w = .ok (.enter g args) w) (k : Nat)
    (a0_0 : Int) (A0_1 : Option Addr) (c0_1 : Nat) (l0_1 : List (List Int)) (a1 : Int) (r : Int) (w : World) (hp : PredK Tryd.prog g lb (Kd.int .i64) (fun x => 0 ≤ x ∧ x < (l0_1.length : Int)) acc w)
    (hr0_1 : Kd.C (Kd.slice 2 (Kd.int .i64)) w A0_1 l0_1.length l0_1) (hc0_1 : l0_1.length ≤ c0_1) (he : ∀ e ∈ l0_1, e.length = 2 ∧ 0 ≤ rd e 0 ∧ 0 ≤ rd e 1) (h1 : 0 ≤ a1) (h : impl_Net_reached.l0 k acc l0_1 0 (shl .i64 1 a1) = some r) :
    Calls Tryd.prog 61 #[.agg #[.int .i64 a0_0, .slice A0_1 l0_1.length c0_1], .int .i64 a1, .func (.func g) #[] lb] w fun e w' => e = .returned (.int .i64 r) ∧ Below w.heap.size w w' := by
  have HP := Aside0.mk hp
  have HR := Aside0.mk hr0_1
  have HE := Aside0.mk he
  have hm := hr0_1.2.1
  clear hp hr0_1 he
  have hu := Tryd.underlying28
  have HB0 := Aside0.mk (Below.refl w.heap.size w)
  obtain ⟨j0, hj0⟩ : ∃ j_ : Int, shl .i64 1 a1 = j_ := ⟨_, rfl⟩
  rw [hj0] at h
  have H' := Aside0.mk h
  clear h
  have hj0w := shl1_w hj0
  have hj0_ : IntKind.i64.wrap (1 * 2 ^ min a1.toNat 64) = j0 := hj0
  have hj0z : a1 ≤ 64 → IntKind.i64.wrap (1 * 2 ^ a1.toNat) = j0 := shl_small hj0
  have h1a := eq_true h1
  have h1b : decide (0 ≤ a1) = true := decide_eq_true h1
  clear hj0 h1
  go_enter Tryd.func61, Tryd.ntmps61
  go_wp2_with (first | ((with_reducible refine gate_dst (N := 3) rfl ?_); refine box_event ?hg (N := 3) ?hd (cs := #[.int .i64 a0_0, .slice A0_1 l0_1.length c0_1]) (t := 28) ?hr ?_; (case hd => rfl); (case hg => rfl); (case hr => first | (go_simp; done) | (go_simp; rfl)); intro gb hgb w1 hbox hb; have HB1 := Aside0.mk (below_step HB0.out hb); have HX1 := Aside0.mk hbox; clear hb hbox hgb))
  go_loopg [7, 8] k (fun kq s7 s8 wr => ∃ (o b : Int), s7 = .int .i64 o ∧ s8 = .int .i64 b ∧ Aside0 (impl_Net_reached.l0 kq acc l0_1 b o = some r) ∧ Aside0 (kq ≤ k) ∧ Aside0 (wr.heap[gb]? = some (.cells #[.int .i64 a0_0, .slice A0_1 l0_1.length c0_1] 28 (0, 0))) ∧ Aside0 (Below w.heap.size w wr))
  case atStart => exact ⟨j0, 0, (by rw [hj0w]), rfl, H', ⟨Nat.le_refl _⟩, ⟨HX1.out⟩, ⟨HB1.out⟩⟩
  case round =>
    clear H' h1a h1b hj0w hj0_ hj0z HB1 HX1
    obtain ⟨o, b, rfl, rfl, HA, HK, HX, HB⟩ := hrel
    cases gk with
    | zero => exact absurd HA.out (by simp [impl_Net_reached.l0])
    | succ k1 =>
      have H := HA.out
      clear HA
      simp only [impl_Net_reached.l0] at H
      by_cases c1 : b = o
      · rw [if_pos c1] at H
        have c1a : (b == o) = true := beq_iff_eq.mpr c1
        have c1b : (b != o) = false := bne_eq_false_iff_eq.mpr c1
        obtain rfl := Option.some.inj H
        clear c1
        go_wp2_with fail
        go_ret
        exact ⟨rfl, HB.out⟩
      · rw [if_neg c1] at H
        have c1a : (b == o) = false := beq_eq_false_iff_ne.mpr c1
        have c1b : (b != o) = true := bne_iff_ne.mpr c1
        have H' := Aside0.mk H
        clear H c1
        have hc1 : wr.cell? ⟨gb, 1, none⟩ = some (.slice A0_1 l0_1.length c0_1) := (blk_cell HX.out 1).trans rfl
        go_wp2_with fail
        clear c1a c1b hc1
        go_loopg [7, 21] k1 (fun kq s7 s21 wr => ∃ (o1 : Int) (ii : Nat), s7 = .int .i64 o1 ∧ s21 = .int .i64 ii ∧ ii ≤ l0_1.length ∧ Aside0 (impl_Net_reached.l1 kq acc l0_1 o o1 ii = some r) ∧ Aside0 (kq ≤ k1) ∧ Aside0 (wr.heap[gb]? = some (.cells #[.int .i64 a0_0, .slice A0_1 l0_1.length c0_1] 28 (0, 0))) ∧ Aside0 (Below w.heap.size w wr))
        case atStart => exact ⟨o, 0, rfl, rfl, Nat.zero_le _, H', ⟨Nat.le_refl _⟩, ⟨HX.out⟩, ⟨HB.out⟩⟩
        case round =>
          clear H' HX HB
          obtain ⟨o1, ii, rfl, rfl, hii, HA, HK2, HX, HB⟩ := hrel
          cases gk with
          | zero => exact absurd HA.out (by simp [impl_Net_reached.l1])
          | succ k2 =>
            have H := HA.out
            clear HA
            simp only [impl_Net_reached.l1] at H
            by_cases c2 : ii < l0_1.length
            · rw [if_pos c2] at H
              have c2a : decide ((ii : Int) < (l0_1.length : Int)) = true := decide_eq_true (by omega)
              have p : (0 : Int) ≤ (ii : Int) := by omega
              have q : (ii : Int) < (l0_1.length : Int) := by omega
              have hel := HE.out (rd_L1 l0_1 ii) (by show l0_1.getD ((ii : Int)).toNat [] ∈ l0_1; rw [Int.toNat_natCast, List.getD_eq_getElem?_getD, List.getElem?_eq_getElem c2]; exact List.getElem_mem c2)
              obtain ⟨ad, A, c, rfl, hx, hl, hi⟩ := at_L1 HR.out (ii : Int) p q
              have hcall := fun W hb => HP.out W (ii : Int) (.int .i64 ii) ⟨p, q⟩ rfl hb
              have hpq := eq_true q
              have hpp := eq_true p
              generalize rd_L1 l0_1 (ii : Int) = e at H hel hx hl hi
              obtain ⟨hlen, e0, e1⟩ := hel
              obtain ⟨ad0, rfl, hx0⟩ := Kd.at_int hi 0 (by omega) (by omega)
              obtain ⟨ad1, he1, hx1⟩ := Kd.at_int hi 1 (by omega) (by omega)
              obtain rfl : ad0 = ad1 := by injection he1
              replace hx := (HB.out.cell (World.block_lt_of_cell? w _ hx)).trans hx
              replace hx0 := (HB.out.cell (World.block_lt_of_cell? w _ hx0)).trans hx0
              replace hx1 := (HB.out.cell (World.block_lt_of_cell? w _ hx1)).trans hx1
              rw [Int.toNat_natCast] at hx
              (try rw [show ((0 : Int)).toNat = 0 from rfl] at hx0)
              (try rw [Addr.add_zero'] at hx0)
              (try rw [show ((1 : Int)).toNat = 1 from rfl] at hx1)
              (try simp only [show (1 : Int).toNat = 1 from rfl, Nat.reduceMul, Nat.reduceEqDiff, Go.Addr.add, ↓reduceIte] at hx1)
              have q0 : (0 < e.length) = True := eq_true (by omega)
              have q1 : (1 < e.length) = True := eq_true (by omega)
              have q0' : decide (0 < e.length) = true := decide_eq_true (by omega)
              have q1' : decide (1 < e.length) = true := decide_eq_true (by omega)
              have q0i : ((0 : Int) < (e.length : Int)) = True := eq_true (by omega)
              have q1i : ((1 : Int) < (e.length : Int)) = True := eq_true (by omega)
              have q0z : decide ((0 : Int) < (e.length : Int)) = true := decide_eq_true (by omega)
              have q1z : decide ((1 : Int) < (e.length : Int)) = true := decide_eq_true (by omega)
              unfold netOwn at H
              generalize rd e 0 = x0 at H e0 hx0
              generalize rd e 1 = x1 at H e1 hx1
              obtain ⟨j1, hj1⟩ : ∃ j_ : Int, shl .i64 1 x0 = j_ := ⟨_, rfl⟩
              obtain ⟨j2, hj2⟩ : ∃ j_ : Int, shl .i64 1 x1 = j_ := ⟨_, rfl⟩
              rw [hj1, hj2] at H
              have hj1w := shl1_w hj1
              have hj1u := shl1_u hj1
              have hj1_ : IntKind.i64.wrap (1 * 2 ^ min x0.toNat 64) = j1 := hj1
              have hj1z : x0 ≤ 64 → IntKind.i64.wrap (1 * 2 ^ x0.toNat) = j1 := shl_small hj1
              have hj2w := shl1_w hj2
              have hj2u := shl1_u hj2
              have hj2_ : IntKind.i64.wrap (1 * 2 ^ min x1.toNat 64) = j2 := hj2
              have hj2z : x1 ≤ 64 → IntKind.i64.wrap (1 * 2 ^ x1.toNat) = j2 := shl_small hj2
              have e0a := eq_true e0
              have e1a := eq_true e1
              have e0b : decide (0 ≤ x0) = true := decide_eq_true e0
              have e1b : decide (0 ≤ x1) = true := decide_eq_true e1
              clear hj1 hj2 e0 e1 hi hl hlen he1
              generalize acc (ii : Int) = bb at H hcall
              cases bb with
              | false =>
                rw [if_neg (by simp)] at H
                have H' := Aside0.mk H
                clear H
                go_wp2_with fail
                go_quiet (fail)
                go_wp2_with (go_at_fn g; refine (hcall _ (pw_below_drewN HB.out _)).mono ?_; rintro e w9 ⟨rfl, hb⟩; have HX9 := Aside0.mk (blk_below (blk_drewN HX.out nq) hb); have HB9 := Aside0.mk (below_step (pw_below_drewN HB.out nq) hb); clear hb)
                go_roundg k2
                case measure => have := HK.out; have := HK2.out; omega
                case rel => exact ⟨o1, ii + 1, rfl, (by go_num), by omega, H', ⟨by have := HK2.out; omega⟩, ⟨HX9.out⟩, ⟨HB9.out⟩⟩
              | true =>
                rw [if_pos rfl] at H
                by_cases c3 : Go.bits .and .i64 o1 (Go.bits .or .i64 j1 j2) = 0
                · rw [if_pos c3] at H
                  have c3a : (Go.bits .and .i64 o1 (Go.bits .or .i64 j1 j2) == 0) = true := beq_iff_eq.mpr c3
                  have c3b : (Go.bits .and .i64 o1 (Go.bits .or .i64 j1 j2) != 0) = false := bne_eq_false_iff_eq.mpr c3
                  clear c3
                  have H' := Aside0.mk H
                  clear H
                  go_wp2_with fail
                  go_quiet (fail)
                  go_wp2_with (go_at_fn g; refine (hcall _ (pw_below_drewN HB.out _)).mono ?_; rintro e w9 ⟨rfl, hb⟩; have HX9 := Aside0.mk (blk_below (blk_drewN HX.out nq) hb); have HB9 := Aside0.mk (below_step (pw_below_drewN HB.out nq) hb); clear hb)
                  go_roundg k2
                  case measure => have := HK.out; have := HK2.out; omega
                  case rel => exact ⟨o1, ii + 1, rfl, (by go_num), by omega, H', ⟨by have := HK2.out; omega⟩, ⟨HX9.out⟩, ⟨HB9.out⟩⟩
                · rw [if_neg c3] at H
                  have c3a : (Go.bits .and .i64 o1 (Go.bits .or .i64 j1 j2) == 0) = false := beq_eq_false_iff_ne.mpr c3
                  have c3b : (Go.bits .and .i64 o1 (Go.bits .or .i64 j1 j2) != 0) = true := bne_iff_ne.mpr c3
                  clear c3
                  have H' := Aside0.mk H
                  clear H
                  go_wp2_with fail
                  go_quiet (fail)
                  go_wp2_with (go_at_fn g; refine (hcall _ (pw_below_drewN HB.out _)).mono ?_; rintro e w9 ⟨rfl, hb⟩; have HX9 := Aside0.mk (blk_below (blk_drewN HX.out nq) hb); have HB9 := Aside0.mk (below_step (pw_below_drewN HB.out nq) hb); clear hb)
                  go_roundg k2
                  case measure => have := HK.out; have := HK2.out; omega
                  case rel => exact ⟨Go.bits .or .i64 o1 (Go.bits .or .i64 j1 j2), ii + 1, rfl, (by go_num), by omega, H', ⟨by have := HK2.out; omega⟩, ⟨HX9.out⟩, ⟨HB9.out⟩⟩
            · rw [if_neg c2] at H
              have c2a : decide ((ii : Int) < (l0_1.length : Int)) = false := decide_eq_false (by omega)
              have H' := Aside0.mk H
              clear H
              go_wp2_with fail
              go_roundg k2
              case measure => have := HK.out; have := HK2.out; omega
              case rel => exact ⟨o1, o, rfl, rfl, H', ⟨by have := HK.out; have := HK2.out; omega⟩, ⟨HX.out⟩, ⟨HB.out⟩⟩
-- Bits of whole numbers that are not less than 0.
theorem bitv_nat (a : Nat) (ha : a < 9223372036854775808) : (BitVec.ofInt 64 (a : Int)).toNat = a := by
  rw [BitVec.ofInt_natCast, BitVec.toNat_ofNat]; exact Nat.mod_eq_of_lt (by omega)
theorem i64_nat (n : Nat) (h : n < 9223372036854775808) : IntKind.i64.wrap (n : Int) = (n : Int) := by
  rw [i64_w]; unfold wrap64; omega
theorem bits_and_nat (a b : Nat) (ha : a < 9223372036854775808) (hb : b < 9223372036854775808) : Go.bits .and .i64 (a : Int) (b : Int) = ((a &&& b : Nat) : Int) := by
  have hx : a &&& b < 2 ^ 63 := Nat.and_lt_two_pow _ (by omega)
  show IntKind.i64.wrap ((BitVec.ofInt 64 (a : Int) &&& BitVec.ofInt 64 (b : Int)).toNat : Int) = _
  rw [BitVec.toNat_and, bitv_nat a ha, bitv_nat b hb, i64_nat _ (by omega)]
theorem bits_or_nat (a b : Nat) (ha : a < 9223372036854775808) (hb : b < 9223372036854775808) : Go.bits .or .i64 (a : Int) (b : Int) = ((a ||| b : Nat) : Int) := by
  have hx : a ||| b < 2 ^ 63 := Nat.or_lt_two_pow (by omega) (by omega)
  show IntKind.i64.wrap ((BitVec.ofInt 64 (a : Int) ||| BitVec.ofInt 64 (b : Int)).toNat : Int) = _
  rw [BitVec.toNat_or, bitv_nat a ha, bitv_nat b hb, i64_nat _ (by omega)]
/-- What a has and b has not. -/
def butNat (a b : Nat) : Nat := (BitVec.ofInt 64 (a : Int) &&& ~~~ BitVec.ofInt 64 (b : Int)).toNat
theorem butNat_bit (a b i : Nat) (ha : a < 9223372036854775808) (hb : b < 9223372036854775808) : (butNat a b).testBit i = (a.testBit i && !b.testBit i) := by
  unfold butNat
  rw [← BitVec.getLsbD, BitVec.getLsbD_and, BitVec.getLsbD_not, BitVec.getLsbD, BitVec.getLsbD, bitv_nat a ha, bitv_nat b hb]
  by_cases h : i < 64
  · simp [h]
  · have : a.testBit i = false := Nat.testBit_lt_two_pow (Nat.lt_of_lt_of_le ha (by have : 2 ^ 63 ≤ 2 ^ i := Nat.pow_le_pow_right (by omega) (by omega); omega))
    simp [h, this]
theorem butNat_lt (a b : Nat) (ha : a < 9223372036854775808) (hb : b < 9223372036854775808) : butNat a b ≤ a := by
  unfold butNat
  rw [BitVec.toNat_and, bitv_nat a ha]
  exact Nat.and_le_left
theorem bits_but_nat (a b : Nat) (ha : a < 9223372036854775808) (hb : b < 9223372036854775808) : Go.bits .andNot .i64 (a : Int) (b : Int) = ((butNat a b : Nat) : Int) := by
  show IntKind.i64.wrap ((BitVec.ofInt 64 (a : Int) &&& ~~~ BitVec.ofInt 64 (b : Int)).toNat : Int) = _
  have := butNat_lt a b ha hb
  unfold butNat at this ⊢
  rw [i64_nat _ (by omega)]
theorem shl_nat (i : Nat) (h : i < 63) : shl .i64 1 (i : Int) = ((2 ^ i : Nat) : Int) := by
  unfold shl
  have h1 : min ((i : Int)).toNat IntKind.i64.bits = i := by rw [Int.toNat_natCast]; show min i 64 = i; omega
  rw [h1, Int.one_mul]
  have h2 : (2 : Nat) ^ i < 9223372036854775808 := by
    have : (2 : Nat) ^ i < 2 ^ 63 := Nat.pow_lt_pow_right (by omega) h
    omega
  have h3 : ((2 : Int) ^ i) = ((2 ^ i : Nat) : Int) := by simp
  rw [h3, i64_nat _ h2]
theorem shr_nat (m i : Nat) (h : i ≤ 64) : shr .i64 (m : Int) (i : Int) = ((m >>> i : Nat) : Int) := by
  unfold shr
  have h1 : min ((i : Int)).toNat IntKind.i64.bits = i := by rw [Int.toNat_natCast]; show min i 64 = i; omega
  rw [h1, Nat.shiftRight_eq_div_pow]
  simp
/-- One bit read. -/
theorem bit_nat (m i : Nat) (hm : m < 9223372036854775808) (h : i ≤ 64) : Go.bits .and .i64 (shr .i64 (m : Int) (i : Int)) 1 = if m.testBit i = true then 1 else 0 := by
  rw [shr_nat m i h]
  have hs : m >>> i ≤ m := Nat.shiftRight_le m i
  have := bits_and_nat (m >>> i) 1 (by omega) (by omega)
  rw [show ((1 : Int)) = ((1 : Nat) : Int) from rfl, this]
  unfold Nat.testBit
  rw [Nat.and_comm 1]
  rw [Nat.and_one_is_mod]
  rcases Nat.mod_two_eq_zero_or_one (m >>> i) with e | e <;> rw [e] <;> simp
theorem u64_nat (i : Nat) (h : i < 9223372036854775808) : IntKind.u64.wrap (i : Int) = (i : Int) := by
  show (i : Int) % 18446744073709551616 = i
  omega
/-! ### laws_szInt64S: function 55 -/
def laws_szInt64S.f (l0 : List Int) (a1 : Int) : Option (Int) := if (wrap64 (a1 - (l0.length : Int))) < 0 then (some (-1)) else (some (wrap64 (a1 - (l0.length : Int))))
set_option maxHeartbeats 8000000 in
set_option maxRecDepth 100000 in
theorem laws_szInt64S.calls (A0 : Option Addr) (c0 : Nat) (l0 : List Int) (a1 : Int) (r : Int) (w : World) (hr0 : Kd.C (Kd.int .i64) w A0 l0.length l0) (hc0 : l0.length ≤ c0) (h : laws_szInt64S.f l0 a1 = some r) :
  Calls Tryd.prog 55 #[.slice A0 l0.length c0, .int .i64 a1] w fun e w' => e = .returned (.int .i64 r) ∧ Drawn0 w w' := by
 have HR0 := Aside0.mk hr0
 have HC0 := Aside0.mk hc0
 clear hr0 hc0
 have H : (if (wrap64 (a1 - (l0.length : Int))) < 0 then (some (-1)) else (some (wrap64 (a1 - (l0.length : Int))))) = some r := h
 clear h
 by_cases c3 : (wrap64 (a1 - (l0.length : Int))) < 0
 ·rw [if_pos c3] at H
  have c3b0 : decide ((wrap64 (a1 - (l0.length : Int))) < 0) = true := decide_eq_true c3
  clear c3
  obtain rfl := Option.some.inj H
  go_enter Tryd.func55, Tryd.ntmps55
  go_wp2
  go_ret
  exact ⟨by first | rfl | (simp; done) | (simp [*]; done), by repeat (first | exact Drawn0.refl _ | apply Drawn0.step)⟩
 ·rw [if_neg c3] at H
  have c3b0 : decide ((wrap64 (a1 - (l0.length : Int))) < 0) = false := decide_eq_false c3
  clear c3
  obtain rfl := Option.some.inj H
  go_enter Tryd.func55, Tryd.ntmps55
  go_wp2
  go_ret
  exact ⟨by first | rfl | (simp; done) | (simp [*]; done), by repeat (first | exact Drawn0.refl _ | apply Drawn0.step)⟩
/-! ### laws_szInt64SS: function 30 -/
def laws_szInt64SS.l0 : Nat → List (List Int) → Int → Int → Option (Int)
 | 0, _, _, _ => none
 | k + 1, x0, x1, x5 => if x5 < (x0.length : Int) then (if 0 ≤ x5 then ((laws_szInt64S.f (rd_L1 x0 x5) x1).bind fun t102 => (if t102 < 0 then (some (-1)) else (laws_szInt64SS.l0 k x0 t102 (wrap64 (x5 + 1))))) else (none)) else (some x1)
def laws_szInt64SS.f (k : Nat) (l0 : List (List Int)) (a1 : Int) : Option (Int) := if (wrap64 (a1 - (l0.length : Int))) < 0 then (some (-1)) else (laws_szInt64SS.l0 k l0 (wrap64 (a1 - (l0.length : Int))) 0)
set_option maxHeartbeats 8000000 in
set_option maxRecDepth 100000 in
theorem laws_szInt64SS.calls (k : Nat) (A0 : Option Addr) (c0 : Nat) (l0 : List (List Int)) (a1 : Int) (r : Int) (w : World) (hr0 : Kd.C (Kd.slice 2 (Kd.int .i64)) w A0 l0.length l0) (hc0 : l0.length ≤ c0) (h : laws_szInt64SS.f k l0 a1 = some r) :
  Calls Tryd.prog 30 #[.slice A0 l0.length c0, .int .i64 a1] w fun e w' => e = .returned (.int .i64 r) ∧ Drawn0 w w' := by
 have HR0 := Aside0.mk hr0
 have HC0 := Aside0.mk hc0
 clear hr0 hc0
 have H : (if (wrap64 (a1 - (l0.length : Int))) < 0 then (some (-1)) else (laws_szInt64SS.l0 k l0 (wrap64 (a1 - (l0.length : Int))) 0)) = some r := h
 clear h
 by_cases c3 : (wrap64 (a1 - (l0.length : Int))) < 0
 ·rw [if_pos c3] at H
  have c3b0 : decide ((wrap64 (a1 - (l0.length : Int))) < 0) = true := decide_eq_true c3
  clear c3
  obtain rfl := Option.some.inj H
  go_enter Tryd.func30, Tryd.ntmps30
  go_wp2
  go_ret
  exact ⟨by first | rfl | (simp; done) | (simp [*]; done), by repeat (first | exact Drawn0.refl _ | apply Drawn0.step)⟩
 ·rw [if_neg c3] at H
  have c3b0 : decide ((wrap64 (a1 - (l0.length : Int))) < 0) = false := decide_eq_false c3
  clear c3
  have H' := Aside0.mk H
  clear H
  go_enter Tryd.func30, Tryd.ntmps30
  go_wp2
  go_loopg [1, 5] k (fun kq v1 v5 w' => ∃ (x1_1 : Int) (x5_1 : Int), v1 = .int .i64 x1_1 ∧ v5 = .int .i64 x5_1 ∧ Aside0 (laws_szInt64SS.l0 kq l0 x1_1 x5_1 = some r) ∧ Aside0 (kq ≤ k) ∧ Drawn0 w w')
  case atStart => exact ⟨(wrap64 (a1 - (l0.length : Int))), (0), (by first | rfl | (simp; done) | (simp [*]; done)), (by first | rfl | (simp; done) | (simp [*]; done)), H', ⟨Nat.le_refl _⟩, by repeat (first | exact Drawn0.refl _ | apply Drawn0.step)⟩
  case round =>
   clear H'
   (try clear p2); (try clear c3); (try clear c3b0)
   obtain ⟨x1_1, x5_1, rfl, rfl, HA, HK1, ⟨m1, rfl⟩⟩ := hrel
   cases gk with
   | zero => exact absurd HA.out (by simp [laws_szInt64SS.l0])
   | succ k1 =>
    have H := HA.out
    clear HA
    simp only [laws_szInt64SS.l0] at H
    by_cases c4 : x5_1 < (l0.length : Int)
    ·rw [if_pos c4] at H
     have c4b0 : decide (x5_1 < (l0.length : Int)) = true := decide_eq_true c4
     clear c4
     by_cases c5 : 0 ≤ x5_1
     ·rw [if_pos c5] at H
      have c5b0 : decide (0 ≤ x5_1) = true := decide_eq_true c5
      clear c5
      replace H := Option.bind_eq_some_iff.mp H
      obtain ⟨t102, A60, H⟩ := H
      replace H : (if t102 < 0 then (some (-1)) else (laws_szInt64SS.l0 k1 l0 t102 (wrap64 (x5_1 + 1)))) = some r := H
      have A6 := Aside0.mk A60
      clear A60
      by_cases c7 : t102 < 0
      ·rw [if_pos c7] at H
       have c7b0 : decide (t102 < 0) = true := decide_eq_true c7
       clear c7
       obtain rfl := Option.some.inj H
       have p101 : 0 ≤ (x5_1 : Int) := oda
       have q101 : x5_1 < (l0.length : Int) := oda
       obtain ⟨ad101, A101_0, c101_0, e101, hx101_0, hl101_0, hi101_0⟩ := at_L1 HR0.out x5_1 p101 q101
       cases e101
       have HR101_0 := Aside0.mk hi101_0
       have HC101_0 := Aside0.mk hl101_0
       clear hi101_0 hl101_0
       replace p101 := eq_true p101
       replace q101 := eq_true q101
       go_wp2_with (first | ((with_reducible refine gate_callee (f := 55) rfl ?_); refine goesA_ (some 23) rfl rfl Tryd.func55 (by kernel_rfl) rfl #[.slice A101_0 (rd_L1 l0 x5_1).length c101_0, .int .i64 x1_1] rfl ?_; (with_reducible refine (laws_szInt64S.calls _ _ (rd_L1 l0 x5_1) x1_1 t102 _ ?side1 ?side2 A6.out).mono ?_); (case side1 => repeat (first | exact HR101_0.out | (with_reducible refine Kd.C_alloc ?_ _) | (with_reducible refine Kd.C_drewN ?_ _) | (with_reducible refine Kd.C_drew ?_))); (case side2 => exact HC101_0.out); rintro e w' ⟨rfl, ⟨nd, rfl⟩⟩; refine ⟨_, rfl, ?_⟩))
       go_ret
       exact ⟨by first | rfl | (simp; done) | (simp [*]; done), by repeat (first | exact Drawn0.refl _ | apply Drawn0.step)⟩
      ·rw [if_neg c7] at H
       have c7b0 : decide (t102 < 0) = false := decide_eq_false c7
       clear c7
       have H' := Aside0.mk H
       clear H
       have p101 : 0 ≤ (x5_1 : Int) := oda
       have q101 : x5_1 < (l0.length : Int) := oda
       obtain ⟨ad101, A101_0, c101_0, e101, hx101_0, hl101_0, hi101_0⟩ := at_L1 HR0.out x5_1 p101 q101
       cases e101
       have HR101_0 := Aside0.mk hi101_0
       have HC101_0 := Aside0.mk hl101_0
       clear hi101_0 hl101_0
       replace p101 := eq_true p101
       replace q101 := eq_true q101
       go_wp2_with (first | ((with_reducible refine gate_callee (f := 55) rfl ?_); refine goesA_ (some 23) rfl rfl Tryd.func55 (by kernel_rfl) rfl #[.slice A101_0 (rd_L1 l0 x5_1).length c101_0, .int .i64 x1_1] rfl ?_; (with_reducible refine (laws_szInt64S.calls _ _ (rd_L1 l0 x5_1) x1_1 t102 _ ?side1 ?side2 A6.out).mono ?_); (case side1 => repeat (first | exact HR101_0.out | (with_reducible refine Kd.C_alloc ?_ _) | (with_reducible refine Kd.C_drewN ?_ _) | (with_reducible refine Kd.C_drew ?_))); (case side2 => exact HC101_0.out); rintro e w' ⟨rfl, ⟨nd, rfl⟩⟩; refine ⟨_, rfl, ?_⟩))
       go_roundg k1
       case measure => have := HK1.out; omega
       case rel => exact ⟨(t102), (wrap64 (x5_1 + 1)), (by first | rfl | (simp; done) | (simp [*]; done)), (by first | rfl | (simp; done) | (simp [*]; done)), H', ⟨by have := HK1.out; omega⟩, by repeat (first | exact Drawn0.refl _ | apply Drawn0.step)⟩
     ·rw [if_neg c5] at H
      exact absurd H (by simp)
    ·rw [if_neg c4] at H
     have c4b0 : decide (x5_1 < (l0.length : Int)) = false := decide_eq_false c4
     clear c4
     obtain rfl := Option.some.inj H
     go_wp2
     go_ret
     exact ⟨by first | rfl | (simp; done) | (simp [*]; done), by repeat (first | exact Drawn0.refl _ | apply Drawn0.step)⟩
/-! ### laws_szNet: function 9 -/
def laws_szNet.f (k : Nat) (a0_0 : Int) (l0_1 : List (List Int)) (a1 : Int) : Option (Int) := (laws_szInt64SS.f k l0_1 a1).bind fun t104 => (if t104 < 0 then (some (-1)) else (some t104))
set_option maxHeartbeats 8000000 in
set_option maxRecDepth 100000 in
theorem laws_szNet.calls (k : Nat) (a0_0 : Int) (A0_1 : Option Addr) (c0_1 : Nat) (l0_1 : List (List Int)) (a1 : Int) (r : Int) (w : World) (hr0_1 : Kd.C (Kd.slice 2 (Kd.int .i64)) w A0_1 l0_1.length l0_1) (hc0_1 : l0_1.length ≤ c0_1) (h : laws_szNet.f k a0_0 l0_1 a1 = some r) :
  Calls Tryd.prog 9 #[.agg #[.int .i64 a0_0, .slice A0_1 l0_1.length c0_1], .int .i64 a1] w fun e w' => e = .returned (.int .i64 r) ∧ Below w.heap.size w w' := by
 have hu24 := Tryd.underlying24
 have HR0_1 := Aside0.mk hr0_1
 have HC0_1 := Aside0.mk hc0_1
 clear hr0_1 hc0_1
 have HB := Aside0.mk (Below.refl w.heap.size w)
 have H : ((laws_szInt64SS.f k l0_1 a1).bind fun t104 => (if t104 < 0 then (some (-1)) else (some t104))) = some r := h
 clear h
 replace H := Option.bind_eq_some_iff.mp H
 obtain ⟨t104, A30, H⟩ := H
 replace H : (if t104 < 0 then (some (-1)) else (some t104)) = some r := H
 have A3 := Aside0.mk A30
 clear A30
 by_cases c4 : t104 < 0
 ·rw [if_pos c4] at H
  have c4b0 : decide (t104 < 0) = true := decide_eq_true c4
  clear c4
  obtain rfl := Option.some.inj H
  go_enter Tryd.func9, Tryd.ntmps9
  go_wp2_with (first | ((with_reducible refine gate_dst (N := 2) rfl ?_); refine box_event ?hg (N := 2) ?hd (cs := #[.int .i64 a0_0, .slice A0_1 l0_1.length c0_1]) (t := 24) ?hr ?_; (case hd => rfl); (case hg => rfl); (case hr => first | (go_simp; done) | (go_simp; rfl)); intro gb103 hg w5 hbox hb; have n0_ := Aside0.mk (below_step hb_ hb); have n1_ := Aside0.mk (hbox); have n2_ := Aside0.mk ((by rw [hg]; exact (below_size hb_) : w.heap.size ≤ gb103)); have n3_ := Aside0.mk ((by rw [hg]; exact (below_size hb_) : w.heap.size ≤ gb103)); clear HB; have HB := n0_; have BK103 := n1_; have GW103 := n2_; have GE103 := n3_; clear n0_ n1_ n2_ n3_; clear hb hbox hg; have hcz6_0 : w5.cell? ⟨gb103, 0, none⟩ = some (.int .i64 a0_0) := (blk_cell BK103.out 0).trans rfl; have hcz6_1 : w5.cell? ⟨gb103, 1, none⟩ = some (.slice A0_1 l0_1.length c0_1) := (blk_cell BK103.out 1).trans rfl; have hfz6_0 := blk_frozen BK103.out 0; have hfz6_1 := blk_frozen BK103.out 1) | ((with_reducible refine gate_callee (f := 30) rfl ?_); refine goesA_ (some 8) rfl rfl Tryd.func30 (by kernel_rfl) rfl #[.slice A0_1 l0_1.length c0_1, .int .i64 a1] rfl ?_; (with_reducible refine (laws_szInt64SS.calls k _ _ l0_1 a1 t104 _ ?side1 ?side2 A3.out).mono ?_); (case side1 => repeat (first | exact (Kd.C_below HR0_1.out HB.out) | (with_reducible refine Kd.C_alloc ?_ _) | (with_reducible refine Kd.C_drewN ?_ _) | (with_reducible refine Kd.C_drew ?_))); (case side2 => exact HC0_1.out); rintro e w' ⟨rfl, ⟨nd, rfl⟩⟩; refine ⟨_, rfl, ?_⟩))
  go_ret
  exact ⟨by first | rfl | (simp [errW_none, errW_some] <;> rfl) | (simp [*, errW_none, errW_some] <;> rfl), by repeat (first | (with_reducible first | exact HB.out | apply below_alloc | apply pw_below_drewN | apply below_drew1 | refine below_set ?_ GE103.out) | exact HB.out)⟩
 ·rw [if_neg c4] at H
  have c4b0 : decide (t104 < 0) = false := decide_eq_false c4
  clear c4
  obtain rfl := Option.some.inj H
  go_enter Tryd.func9, Tryd.ntmps9
  go_wp2_with (first | ((with_reducible refine gate_dst (N := 2) rfl ?_); refine box_event ?hg (N := 2) ?hd (cs := #[.int .i64 a0_0, .slice A0_1 l0_1.length c0_1]) (t := 24) ?hr ?_; (case hd => rfl); (case hg => rfl); (case hr => first | (go_simp; done) | (go_simp; rfl)); intro gb103 hg w7 hbox hb; have n0_ := Aside0.mk (below_step hb_ hb); have n1_ := Aside0.mk (hbox); have n2_ := Aside0.mk ((by rw [hg]; exact (below_size hb_) : w.heap.size ≤ gb103)); have n3_ := Aside0.mk ((by rw [hg]; exact (below_size hb_) : w.heap.size ≤ gb103)); clear HB; have HB := n0_; have BK103 := n1_; have GW103 := n2_; have GE103 := n3_; clear n0_ n1_ n2_ n3_; clear hb hbox hg; have hcz8_0 : w7.cell? ⟨gb103, 0, none⟩ = some (.int .i64 a0_0) := (blk_cell BK103.out 0).trans rfl; have hcz8_1 : w7.cell? ⟨gb103, 1, none⟩ = some (.slice A0_1 l0_1.length c0_1) := (blk_cell BK103.out 1).trans rfl; have hfz8_0 := blk_frozen BK103.out 0; have hfz8_1 := blk_frozen BK103.out 1) | ((with_reducible refine gate_callee (f := 30) rfl ?_); refine goesA_ (some 8) rfl rfl Tryd.func30 (by kernel_rfl) rfl #[.slice A0_1 l0_1.length c0_1, .int .i64 a1] rfl ?_; (with_reducible refine (laws_szInt64SS.calls k _ _ l0_1 a1 t104 _ ?side1 ?side2 A3.out).mono ?_); (case side1 => repeat (first | exact (Kd.C_below HR0_1.out HB.out) | (with_reducible refine Kd.C_alloc ?_ _) | (with_reducible refine Kd.C_drewN ?_ _) | (with_reducible refine Kd.C_drew ?_))); (case side2 => exact HC0_1.out); rintro e w' ⟨rfl, ⟨nd, rfl⟩⟩; refine ⟨_, rfl, ?_⟩))
  go_ret
  exact ⟨by first | rfl | (simp [errW_none, errW_some] <;> rfl) | (simp [*, errW_none, errW_some] <;> rfl), by repeat (first | (with_reducible first | exact HB.out | apply below_alloc | apply pw_below_drewN | apply below_drew1 | refine below_set ?_ GE103.out) | exact HB.out)⟩
/-- The verifier's count of a list. -/
theorem szInt64S_val (l : List Int) (a : Int) (hl : l.length ≤ maxLen) (h0 : 0 ≤ a) (h1 : a ≤ 1048576) : laws_szInt64S.f l a = some (if a < l.length then -1 else a - l.length) := by
  unfold maxLen at hl
  have e : wrap64 (a - (l.length : Int)) = a - l.length := by unfold wrap64; omega
  unfold laws_szInt64S.f
  rw [e]
  by_cases h : a < l.length
  · rw [if_pos h, if_pos (by omega)]
  · rw [if_neg h, if_neg (by omega)]
/-- The verifier's helpers on lists of lists: sizes, copies, equality. -/
theorem rdL_get (l : List (List Int)) (i : Nat) (h : i < l.length) : rd_L1 l (i : Int) = l[i] := by
  show l.getD ((i : Int)).toNat [] = l[i]
  rw [Int.toNat_natCast, List.getD_eq_getElem?_getD, List.getElem?_eq_getElem h]; rfl
def sumLen : List (List Int) → Int
  | [] => 0
  | x :: r => x.length + sumLen r
theorem sumLen_nonneg : ∀ l : List (List Int), 0 ≤ sumLen l
  | [] => by simp [sumLen]
  | x :: r => by have := sumLen_nonneg r; unfold sumLen; omega
theorem sumLen_mem : ∀ (l : List (List Int)) (x : List Int), x ∈ l → (x.length : Int) ≤ sumLen l
  | [], x, h => by simp at h
  | y :: r, x, h => by
    have h0 := sumLen_nonneg r
    unfold sumLen
    rcases List.mem_cons.1 h with rfl | h
    · omega
    · have := sumLen_mem r x h; omega
theorem szInt64SS_l0 (l : List (List Int)) (hl : l.length ≤ maxLen) (hx : ∀ x ∈ l, x.length ≤ maxLen) : ∀ (d i : Nat) (a : Int), i + d = l.length → 0 ≤ a → a ≤ 1048576 → Ev (fun k => laws_szInt64SS.l0 k l a i) (if a < sumLen (l.drop i) then -1 else a - sumLen (l.drop i)) := by
  intro d
  induction d with
  | zero =>
    intro i a hi h0 h1
    refine Ev.step (f := fun _ => some _) (fun k => ?_) (Ev.now _)
    simp only [laws_szInt64SS.l0]
    rw [if_neg (by omega), List.drop_of_length_le (by omega), sumLen, if_neg (by omega)]
    congr 1; omega
  | succ d ih =>
    intro i a hi h0 h1
    have hlt : i < l.length := by omega
    have hn := sumLen_nonneg (l.drop (i + 1))
    rw [List.drop_eq_getElem_cons hlt, sumLen]
    have hxl := hx _ (List.getElem_mem hlt)
    by_cases h : a < l[i].length
    · refine Ev.step (f := fun _ => some _) (fun k => ?_) (Ev.now _)
      simp only [laws_szInt64SS.l0]
      rw [if_pos (by omega), if_pos (by omega), rdL_get l i hlt, szInt64S_val _ a hxl h0 h1, if_pos h, Option.bind_some, if_pos (by omega), if_pos (by omega)]
    · have := ih (i + 1) (a - l[i].length) (by omega) (by omega) (by omega)
      have e : (if a - (l[i].length : Int) < sumLen (l.drop (i + 1)) then (-1 : Int) else a - (l[i].length : Int) - sumLen (l.drop (i + 1))) = if a < (l[i].length : Int) + sumLen (l.drop (i + 1)) then -1 else a - ((l[i].length : Int) + sumLen (l.drop (i + 1))) := by
        by_cases h2 : a < (l[i].length : Int) + sumLen (l.drop (i + 1))
        · rw [if_pos h2, if_pos (by omega)]
        · rw [if_neg h2, if_neg (by omega)]; omega
      rw [e] at this
      refine Ev.step (fun k => ?_) this
      simp only [laws_szInt64SS.l0]
      rw [if_pos (by omega), if_pos (by omega), rdL_get l i hlt, szInt64S_val _ a hxl h0 h1, if_neg h, Option.bind_some, if_neg (by omega), wrap_next hlt (by unfold maxLen at hl; omega)]
/-- The size that is left: -1, or the lists are short. -/
theorem szInt64SS_ev (l : List (List Int)) (hl : l.length ≤ maxLen) (hx : ∀ x ∈ l, x.length ≤ maxLen) (a : Int) (h0 : 0 ≤ a) (h1 : a ≤ 1048576) :
    ∃ v, Ev (fun k => laws_szInt64SS.f k l a) v ∧ (v = -1 ∨ 0 ≤ v ∧ v ≤ a ∧ (l.length : Int) ≤ a ∧ (∀ x ∈ l, (x.length : Int) ≤ a) ∧ v = a - l.length - sumLen l) := by
  have e : wrap64 (a - (l.length : Int)) = a - l.length := by unfold maxLen at hl; unfold wrap64; omega
  by_cases h : a < l.length
  · exact ⟨-1, Ev.congr (fun k => by unfold laws_szInt64SS.f; rw [e, if_pos (by omega)]) (Ev.now _), .inl rfl⟩
  · have := szInt64SS_l0 l hl hx l.length 0 (a - l.length) (by omega) (by omega) (by omega)
    rw [List.drop_zero] at this
    refine ⟨_, Ev.congr (fun k => ?_) this, ?_⟩
    · unfold laws_szInt64SS.f; rw [e, if_neg (by omega)]; rfl
    · have hn := sumLen_nonneg l
      by_cases h2 : a - (l.length : Int) < sumLen l
      · left; rw [if_pos h2]
      · right
        rw [if_neg h2]
        refine ⟨by omega, by omega, by omega, fun x hm => ?_, rfl⟩
        have := sumLen_mem l x hm
        omega
theorem toInt64SS_l0 (l : List (List Int)) (hl : l.length ≤ 1048576) (hx : ∀ x ∈ l, x.length ≤ 1048576) : ∀ (d i : Nat) (y : List (List Int)), i + d = l.length → y.length = l.length → y.take i = l.take i → Ev (fun k => laws_toInt64SS.l0 k l y i) l := by
  intro d
  induction d with
  | zero =>
    intro i y hi hyl ht
    refine Ev.step (f := fun _ => some l) (fun k => ?_) (Ev.now _)
    simp only [laws_toInt64SS.l0]
    rw [if_neg (by omega)]
    have : i = l.length := by omega
    rw [this, List.take_of_length_le (by omega), List.take_of_length_le (by omega)] at ht
    rw [ht]
  | succ d ih =>
    intro i y hi hyl ht
    have hlt : i < l.length := by omega
    have hb := hx _ (List.getElem_mem hlt)
    refine Ev.step (f := fun k => (laws_toInt64S.f k l[i]).bind fun t => laws_toInt64SS.l0 k l (y.set i t) ((i + 1 : Nat) : Int)) (fun k => ?_) (Ev.bind (toInt64S_ev l[i] (by omega)) (ih (i + 1) _ (by omega) (by simpa using hyl) (take_set_next l y i hlt hyl ht)))
    simp only [laws_toInt64SS.l0]
    rw [if_pos (by omega), if_pos (by omega), rdL_get l i hlt, wrap_next hlt (by omega), Int.toNat_natCast]
    refine congrArg _ (funext fun t => ?_)
    rw [if_pos (by omega)]
theorem toInt64SS_ev (l : List (List Int)) (hl : l.length ≤ 1048576) (hx : ∀ x ∈ l, x.length ≤ 1048576) : Ev (fun k => laws_toInt64SS.f k l) l := by
  refine Ev.congr (f := fun k => laws_toInt64SS.l0 k l (List.replicate l.length []) ((0 : Nat) : Int)) (fun k => ?_) (toInt64SS_l0 l hl hx l.length 0 _ (by omega) (by simp) (by simp))
  unfold laws_toInt64SS.f
  rw [if_pos (by omega), if_pos (by omega), Int.toNat_natCast]; rfl
theorem eqInt64SS_l0 (x y : List (List Int)) (hl : x.length = y.length) (hx : x.length ≤ 9223372036854775807) (hb : ∀ z ∈ x, z.length ≤ 9223372036854775807) : ∀ (d i : Nat), i + d = x.length → x.take i = y.take i → Ev (fun k => laws_eqInt64SS.l0 k x y i) (decide (x = y)) := by
  intro d
  induction d with
  | zero =>
    intro i hi ht
    refine Ev.step (f := fun _ => some (decide (x = y))) (fun k => ?_) (Ev.now _)
    simp only [laws_eqInt64SS.l0]
    rw [if_neg (by omega)]
    have : i = x.length := by omega
    rw [this, List.take_of_length_le (by omega), List.take_of_length_le (by omega)] at ht
    simp [ht]
  | succ d ih =>
    intro i hi ht
    have hlt : i < x.length := by omega
    have hz := eqInt64S_ev x[i] (y[i]'(by omega)) (hb _ (List.getElem_mem hlt))
    by_cases he : x[i] = y[i]'(by omega)
    · rw [decide_eq_true he] at hz
      refine Ev.step (f := fun k => (laws_eqInt64S.f k x[i] (y[i]'(by omega))).bind fun t => if t = true then laws_eqInt64SS.l0 k x y ((i + 1 : Nat) : Int) else some false) (fun k => ?_) (Ev.bind hz (Ev.congr (fun k => by rw [if_pos rfl]) (ih (i + 1) (by omega) ?_)))
      · simp only [laws_eqInt64SS.l0]
        rw [if_pos (by omega), if_pos (by omega), if_pos (by omega), wrap_next hlt (by omega), rdL_get x i hlt, rdL_get y i (by omega)]
      · rw [List.take_succ_eq_append_getElem hlt, List.take_succ_eq_append_getElem (by omega), ht, he]
    · rw [decide_eq_false he] at hz
      have hne : x ≠ y := fun h => he (by subst h; rfl)
      rw [decide_eq_false hne]
      refine Ev.step (f := fun k => (laws_eqInt64S.f k x[i] (y[i]'(by omega))).bind fun t => if t = true then laws_eqInt64SS.l0 k x y ((i + 1 : Nat) : Int) else some false) (fun k => ?_) (Ev.bind hz (Ev.congr (fun k => by rw [if_neg (by simp)]) (Ev.now _)))
      simp only [laws_eqInt64SS.l0]
      rw [if_pos (by omega), if_pos (by omega), if_pos (by omega), wrap_next hlt (by omega), rdL_get x i hlt, rdL_get y i (by omega)]
theorem eqInt64SS_ev (x y : List (List Int)) (hx : x.length ≤ 9223372036854775807) (hb : ∀ z ∈ x, z.length ≤ 9223372036854775807) : Ev (fun k => laws_eqInt64SS.f k x y) (decide (x = y)) := by
  by_cases h : x.length = y.length
  · refine Ev.congr (f := fun k => laws_eqInt64SS.l0 k x y ((0 : Nat) : Int)) (fun k => ?_) (eqInt64SS_l0 x y h hx hb x.length 0 (by omega) (by simp))
    unfold laws_eqInt64SS.f
    rw [if_pos (by omega)]; rfl
  · refine Ev.congr (f := fun _ => some (decide (x = y))) (fun k => ?_) (Ev.now _)
    unfold laws_eqInt64SS.f
    rw [if_neg (by omega)]
    have : x ≠ y := fun e => h (by rw [e])
    simp [this]
theorem eqInt64SS_self (x : List (List Int)) (hx : x.length ≤ 9223372036854775807) (hb : ∀ z ∈ x, z.length ≤ 9223372036854775807) : Ev (fun k => laws_eqInt64SS.f k x x) true := by
  have := eqInt64SS_ev x x hx hb
  simpa using this
/-- The reference's 'in' is the program's 'within'. -/
theorem in_inW (n a b : Int) : spec_l01In.f n a b = some (inW n a b) := by
  unfold spec_l01In.f inW
  by_cases h : a ≤ n <;> simp [h]
/-- The reference's test of nets is the program's. -/
theorem rd_two0 (a b : Int) : rd [a, b] 0 = a := rfl
theorem rd_two1 (a b : Int) : rd [a, b] 1 = b := rfl
theorem len_two {e : List Int} (h : e.length = 2) : ∃ a b, e = [a, b] := by
  match e, h with
  | [a, b], _ => exact ⟨a, b, rfl⟩
theorem rising_two (a b lo ub : Int) : rising [a, b] lo ub = (inW a lo ub && (inW b lo ub && !decide (b ≤ a))) := by
  simp [rising, risingFrom]
theorem cmp_two (a b c d : Int) : cmpL [a, b] [c, d] < 0 ↔ a < c ∨ a = c ∧ b < d := by
  simp only [cmpL]
  by_cases h1 : a < c
  · simp [h1]
  · by_cases h2 : c < a
    · simp [h1, h2]; omega
    · have : a = c := by omega
      subst this
      by_cases h3 : b < d
      · simp [h3]
      · by_cases h4 : d < b <;> simp [h3, h4]
theorem edge_good {p : Int} {e : List Int} (h : edgeBad p e = false) : ∃ a b, e = [a, b] ∧ inW a 0 (wrap64 (p - 1)) = true ∧ inW b 0 (wrap64 (p - 1)) = true ∧ ¬ b ≤ a := by
  unfold edgeBad at h
  simp only [Bool.or_eq_false_iff, Bool.not_eq_false', decide_eq_true_eq] at h
  obtain ⟨a, b, rfl⟩ := len_two h.1
  rw [rising_two] at h
  simp only [Bool.and_eq_true, Bool.not_eq_true', decide_eq_false_iff_not] at h
  exact ⟨a, b, rfl, h.2.1, h.2.2.1, h.2.2.2⟩
theorem l10Is_l0 (p : Int) (l : List (List Int)) (hl : l.length ≤ 9223372036854775807) : ∀ (d i : Nat), i + d = l.length → (∀ e ∈ l.take i, edgeBad p e = false) →
    Ev (fun k => spec_l10Is.l0 k i p l) (!(l.drop i).any (edgeBad p) && sortedBy cmpL (l.drop (i - 1))) := by
  intro d
  induction d with
  | zero =>
    intro i hi hg
    refine Ev.step (f := fun _ => some _) (fun k => ?_) (Ev.now _)
    simp only [spec_l10Is.l0]
    rw [if_neg (by omega), List.drop_of_length_le (by omega)]
    have : sortedBy cmpL (l.drop (i - 1)) = true := by
      by_cases h0 : i = 0
      · have : l = [] := List.eq_nil_of_length_eq_zero (by omega)
        subst this; simp [sortedBy]
      · rw [List.drop_eq_getElem_cons (by omega), List.drop_of_length_le (by omega)]; rfl
    rw [this]; rfl
  | succ d ih =>
    intro i hi hg
    have hlt : i < l.length := by omega
    have e1 : l.drop i = l[i] :: l.drop (i + 1) := List.drop_eq_getElem_cons hlt
    have hany : (l.drop i).any (edgeBad p) = (edgeBad p l[i] || (l.drop (i + 1)).any (edgeBad p)) := by rw [e1]; rfl
    rw [hany]
    by_cases hb : edgeBad p l[i] = true
    · -- not an edge
      rw [hb]
      refine Ev.congr (g := fun k => spec_l10Is.l0 k i p l) (f := fun k => spec_l10Is.l0 k i p l) (fun _ => rfl) ?_
      show Ev _ (!(true || _) && _)
      simp only [Bool.true_or, Bool.not_true, Bool.false_and]
      have hj : Ev (fun k => spec_l10Is.j2 k i l[i] true p l) false := Ev.step (f := fun _ => some false) (fun k => by simp only [spec_l10Is.j2]; rw [if_pos trivial]) (Ev.now _)
      refine Ev.step (f := fun k => spec_l10Is.j2 k i l[i] true p l) (fun k => ?_) hj
      simp only [spec_l10Is.l0]
      rw [if_pos (by omega), if_pos (by omega), rdL_get l i hlt]
      by_cases h2 : l[i].length = 2
      · obtain ⟨a, b, hab⟩ := len_two h2
        rw [hab] at hb ⊢
        rw [if_pos (by simp), if_pos (by simp), rd_two0, in_inW, Option.bind_some]
        by_cases ha : inW a 0 (wrap64 (p - 1)) = true
        · rw [if_pos ha, if_pos (by simp), rd_two1, in_inW, Option.bind_some]
          by_cases hb' : inW b 0 (wrap64 (p - 1)) = true
          · rw [if_pos hb']
            have : decide (a ≥ b) = true := by
              unfold edgeBad at hb
              rw [rising_two, ha, hb'] at hb
              simpa using hb
            rw [this]
          · rw [if_neg hb']
        · rw [if_neg ha]
      · rw [if_neg (by omega)]
    · have hb' : edgeBad p l[i] = false := by simpa using hb
      obtain ⟨a, b, hab, ha, hbb, hlt2⟩ := edge_good hb'
      have hg' : ∀ e ∈ l.take (i + 1), edgeBad p e = false := by
        intro e he
        rw [List.take_succ_eq_append_getElem hlt] at he
        rcases List.mem_append.1 he with h | h
        · exact hg e h
        · rw [List.mem_singleton.1 h]; exact hb'
      have ih1 := ih (i + 1) (by omega) hg'
      rw [Nat.add_sub_cancel] at ih1
      rw [hb', Bool.false_or]
      -- to the second test
      have step : ∀ v, Ev (fun k => spec_l10Is.j2 k i [a, b] false p l) v → Ev (fun k => spec_l10Is.l0 k i p l) v := by
        intro v hv
        refine Ev.step (f := fun k => spec_l10Is.j2 k i [a, b] false p l) (fun k => ?_) hv
        simp only [spec_l10Is.l0]
        rw [if_pos (by omega), if_pos (by omega), rdL_get l i hlt, hab, if_pos (by simp), if_pos (by simp), rd_two0, rd_two1, in_inW, in_inW, ha, hbb, Option.bind_some, if_pos rfl, if_pos (by simp), Option.bind_some, if_pos rfl, decide_eq_false (by omega)]
      refine step _ ?_
      by_cases h0 : i = 0
      · subst h0
        refine Ev.step (fun k => ?_) ih1
        simp only [spec_l10Is.j2]
        rw [if_neg (by simp), if_neg (by omega), wrap_next hlt hl]
      · have hp : i - 1 < l.length := by omega
        have hpm : l[i - 1] ∈ l.take i := by
          rw [List.mem_take_iff_getElem]
          exact ⟨i - 1, by omega, rfl⟩
        obtain ⟨c, d', hcd, _, _, _⟩ := edge_good (hg _ hpm)
        have ew : wrap64 ((i : Int) - 1) = ((i - 1 : Nat) : Int) := by unfold wrap64; omega
        have e2 : l.drop (i - 1) = [c, d'] :: [a, b] :: l.drop (i + 1) := by
          rw [List.drop_eq_getElem_cons hp, hcd, show i - 1 + 1 = i by omega, e1, hab]
        rw [e2]
        rw [e1, hab] at ih1
        have es : sortedBy cmpL ([c, d'] :: [a, b] :: l.drop (i + 1)) = (!decide (cmpL [a, b] [c, d'] < 0) && sortedBy cmpL ([a, b] :: l.drop (i + 1))) := rfl
        rw [es]
        by_cases h1 : c > a
        · have : cmpL [a, b] [c, d'] < 0 := (cmp_two a b c d').2 (.inl h1)
          rw [decide_eq_true this]
          simp only [Bool.not_true, Bool.false_and, Bool.and_false]
          refine Ev.step (f := fun _ => some false) (fun k => ?_) (Ev.now _)
          simp only [spec_l10Is.j2]
          rw [if_neg (by simp), if_pos (by omega), ew, if_pos (by omega), if_pos (by omega), rdL_get l (i - 1) hp, hcd, if_pos (by simp), if_pos (by simp), rd_two0, rd_two0, if_pos h1]
        · by_cases h2 : c = a
          · by_cases h3 : d' > b
            · have : cmpL [a, b] [c, d'] < 0 := (cmp_two a b c d').2 (.inr ⟨h2.symm, h3⟩)
              rw [decide_eq_true this]
              simp only [Bool.not_true, Bool.false_and, Bool.and_false]
              refine Ev.step (f := fun _ => some false) (fun k => ?_) (Ev.now _)
              simp only [spec_l10Is.j2]
              rw [if_neg (by simp), if_pos (by omega), ew, if_pos (by omega), if_pos (by omega), rdL_get l (i - 1) hp, hcd, if_pos (by simp), if_pos (by simp), rd_two0, rd_two0, if_neg h1, if_pos h2, if_pos (by simp), if_pos (by simp), rd_two1, rd_two1, if_pos h3]
            · have : ¬ cmpL [a, b] [c, d'] < 0 := fun h => by
                rcases (cmp_two a b c d').1 h with h | h <;> omega
              rw [decide_eq_false this]
              refine Ev.step (fun k => ?_) ih1
              simp only [spec_l10Is.j2]
              rw [if_neg (by simp), if_pos (by omega), ew, if_pos (by omega), if_pos (by omega), rdL_get l (i - 1) hp, hcd, if_pos (by simp), if_pos (by simp), rd_two0, rd_two0, if_neg h1, if_pos h2, if_pos (by simp), if_pos (by simp), rd_two1, rd_two1, if_neg h3, wrap_next hlt hl]
          · have : ¬ cmpL [a, b] [c, d'] < 0 := fun h => by
              rcases (cmp_two a b c d').1 h with h | h <;> omega
            rw [decide_eq_false this]
            refine Ev.step (fun k => ?_) ih1
            simp only [spec_l10Is.j2]
            rw [if_neg (by simp), if_pos (by omega), ew, if_pos (by omega), if_pos (by omega), rdL_get l (i - 1) hp, hcd, if_pos (by simp), if_pos (by simp), rd_two0, rd_two0, if_neg h1, if_neg h2, wrap_next hlt hl]
theorem l10Is_ev (p : Int) (l : List (List Int)) (hl : l.length ≤ 9223372036854775807) : Ev (fun k => spec_l10Is.f k p l) (isNetV p l) := by
  unfold spec_l10Is.f isNetV
  rw [in_inW]
  have hj : Ev (fun k => spec_l10Is.j0 k true p l) false := Ev.step (f := fun _ => some false) (fun k => by simp only [spec_l10Is.j0]; rw [if_pos trivial]) (Ev.now _)
  by_cases h1 : inW p 2 8 = true
  · rw [h1]
    by_cases h2 : (l.length : Int) > 10
    · rw [decide_eq_true h2]
      exact Ev.congr (fun k => by rw [Option.bind_some, if_pos rfl]) hj
    · rw [decide_eq_false h2]
      have := l10Is_l0 p l hl l.length 0 (by omega) (by simp)
      rw [List.drop_zero] at this
      refine Ev.congr (f := fun k => spec_l10Is.j0 k false p l) (fun k => by rw [Option.bind_some, if_pos rfl]) (Ev.step (fun k => ?_) this)
      simp only [spec_l10Is.j0]
      rw [if_neg (by simp)]; rfl
  · have h1' : inW p 2 8 = false := by simpa using h1
    rw [h1']
    exact Ev.congr (fun k => by rw [Option.bind_some, if_neg (by simp)]) hj
/-- The verifier's helpers on nets. -/
theorem szNet_ev (p : Int) (l : List (List Int)) (hl : l.length ≤ maxLen ∧ ∀ x ∈ l, x.length ≤ maxLen ∧ ∀ y ∈ x, (Lit.int .i64 y).wf = true) :
    ∃ v, Ev (fun k => laws_szNet.f k p l 1048576) v ∧ (v = -1 ∨ 0 ≤ v ∧ l.length ≤ 1048576 ∧ ∀ x ∈ l, x.length ≤ 1048576) := by
  obtain ⟨v, hv, h⟩ := szInt64SS_ev l hl.1 (fun x hx => (hl.2 x hx).1) 1048576 (by omega) (by omega)
  unfold laws_szNet.f
  rcases h with rfl | ⟨h0, _, h1, h2, _⟩
  · exact ⟨-1, Ev.bind hv (Ev.congr (fun k => by rw [if_pos (by omega)]) (Ev.now _)), .inl rfl⟩
  · exact ⟨v, Ev.bind hv (Ev.congr (fun k => by rw [if_neg (by omega)]) (Ev.now _)), .inr ⟨h0, by omega, fun x hx => by have := h2 x hx; omega⟩⟩
theorem toNet_ev (p : Int) (l : List (List Int)) (hl : l.length ≤ 1048576) (hx : ∀ x ∈ l, x.length ≤ 1048576) : Ev (fun k => laws_toNet.f k p l) (p, l) := by
  unfold laws_toNet.f
  exact Ev.bind (toInt64SS_ev l hl hx) (Ev.now _)
theorem eqNet_self (p : Int) (l : List (List Int)) (hl : l.length ≤ 1048576) (hx : ∀ x ∈ l, x.length ≤ 1048576) : Ev (fun k => laws_eqNet.f k p l p l) true := by
  unfold laws_eqNet.f
  refine Ev.congr (fun k => by rw [if_pos rfl]) (Ev.bind (eqInt64SS_self l (by omega) (fun z hz => by have := hx z hz; omega)) (Ev.congr (fun k => by rw [if_pos rfl]) (Ev.now _)))
-- What the program's 'reached' and the reference's 'l10Reached' compute: the least set of points that holds one point and is closed under the accepted edges.
def NetEdges (l : List (List Int)) : Prop := l.length ≤ 10 ∧ ∀ e ∈ l, ∃ a b : Nat, e = [(a : Int), (b : Int)] ∧ a < 8 ∧ b < 8
def ea (l : List (List Int)) (i : Nat) : Nat := (rd (rd_L1 l i) 0).toNat
def eb (l : List (List Int)) (i : Nat) : Nat := (rd (rd_L1 l i) 1).toNat
theorem edge_at {l : List (List Int)} (h : NetEdges l) {i : Nat} (hi : i < l.length) : rd_L1 l i = [(ea l i : Int), (eb l i : Int)] ∧ ea l i < 8 ∧ eb l i < 8 := by
  have e : rd_L1 l (i : Int) = l[i] := by
    show l.getD ((i : Int)).toNat [] = l[i]
    rw [Int.toNat_natCast, List.getD_eq_getElem?_getD, List.getElem?_eq_getElem hi]; rfl
  obtain ⟨a, b, hab, ha, hb⟩ := h.2 l[i] (List.getElem_mem hi)
  unfold ea eb
  rw [e, hab]
  have h0 : rd [(a : Int), (b : Int)] 0 = (a : Int) := rfl
  have h1 : rd [(a : Int), (b : Int)] 1 = (b : Int) := rfl
  rw [h0, h1, Int.toNat_natCast, Int.toNat_natCast]
  exact ⟨rfl, ha, hb⟩
def ClosedUnder (A : Nat → Bool) (l : List (List Int)) (m : Nat) : Prop := ∀ i, i < l.length → A i = true → m.testBit (ea l i) = m.testBit (eb l i)
def Under (A : Nat → Bool) (l : List (List Int)) (f m : Nat) : Prop := ∀ M : Nat, M.testBit f = true → ClosedUnder A l M → ∀ x, m.testBit x = true → M.testBit x = true
def LeastSet (A : Nat → Bool) (l : List (List Int)) (f c : Nat) : Prop := c < 256 ∧ c.testBit f = true ∧ ClosedUnder A l c ∧ Under A l f c
theorem LeastSet.eq {A : Nat → Bool} {l : List (List Int)} {f c d : Nat} (h : LeastSet A l f c) (k : LeastSet A l f d) : c = d := by
  apply Nat.eq_of_testBit_eq
  intro x
  rw [Bool.eq_iff_iff]
  exact ⟨h.2.2.2 d k.2.1 k.2.2.1 x, k.2.2.2 c h.2.1 h.2.2.1 x⟩
theorem LeastSet.congr {A B : Nat → Bool} {l : List (List Int)} {f c : Nat} (h : LeastSet A l f c) (e : ∀ i, i < l.length → A i = B i) : LeastSet B l f c := by
  refine ⟨h.1, h.2.1, fun i hi hb => h.2.2.1 i hi (by rw [e i hi]; exact hb), fun M h1 h2 => h.2.2.2 M h1 (fun i hi ha => h2 i hi (by rw [← e i hi]; exact ha))⟩
theorem two_lt {a : Nat} (h : a < 8) : 2 ^ a < 256 := by
  have : 2 ^ a < 2 ^ 8 := Nat.pow_lt_pow_right (by omega) h
  omega
theorem or_lt {m a : Nat} (hm : m < 256) (ha : a < 256) : m ||| a < 256 := by
  have := Nat.or_lt_two_pow (n := 8) (x := m) (y := a) (by omega) (by omega)
  omega
theorem bit_or2 (m a b x : Nat) : ((m ||| 2 ^ a) ||| 2 ^ b).testBit x = (m.testBit x || decide (a = x) || decide (b = x)) := by
  rw [Nat.testBit_or, Nat.testBit_or, Nat.testBit_two_pow, Nat.testBit_two_pow]
theorem under_or {A : Nat → Bool} {l : List (List Int)} {f m i : Nat} (h : Under A l f m) (hi : i < l.length) (hA : A i = true) (hm : m.testBit (ea l i) = true ∨ m.testBit (eb l i) = true) : Under A l f ((m ||| 2 ^ ea l i) ||| 2 ^ eb l i) := by
  intro M hM hC x hx
  rw [bit_or2] at hx
  have hc := hC i hi hA
  have hu := h M hM hC
  simp only [Bool.or_eq_true, decide_eq_true_eq] at hx
  rcases hx with (hx | rfl) | rfl
  · exact hu x hx
  · rcases hm with hm | hm
    · exact hu _ hm
    · rw [hc]; exact hu _ hm
  · rcases hm with hm | hm
    · rw [← hc]; exact hu _ hm
    · exact hu _ hm
theorem or2_le (m a b : Nat) : m ≤ (m ||| 2 ^ a) ||| 2 ^ b := Nat.le_trans Nat.left_le_or Nat.left_le_or
theorem or2_ne {m a b : Nat} (h : m.testBit a ≠ m.testBit b) : m < (m ||| 2 ^ a) ||| 2 ^ b := by
  refine Nat.lt_of_le_of_ne (or2_le m a b) fun e => h ?_
  have h1 := bit_or2 m a b a
  have h2 := bit_or2 m a b b
  rw [← e] at h1 h2
  rw [h1, h2]; simp
theorem bit_mono_or (m a b f : Nat) (h : m.testBit f = true) : ((m ||| 2 ^ a) ||| 2 ^ b).testBit f = true := by rw [bit_or2, h]; rfl
theorem stepS (p : Int) (l : List (List Int)) (s m' a b i : Nat) (more : Bool) (k : Nat) (hs : s < 4611686018427387904) (hm' : m' < 256) (ha : a < 8) (hb : b < 8) (hlt : i < l.length) (hlen : l.length ≤ 10) (he : rd_L1 l i = [(a : Int), (b : Int)]) :
    spec_l10Reached.l1 (k + 1) s m' more i p l = if s.testBit i = true then (if m'.testBit a = m'.testBit b then spec_l10Reached.l1 k s m' more ((i + 1 : Nat) : Int) p l else spec_l10Reached.l1 k s (((m' ||| 2 ^ a) ||| 2 ^ b : Nat) : Int) true ((i + 1 : Nat) : Int) p l) else spec_l10Reached.l1 k s m' more ((i + 1 : Nat) : Int) p l := by
  have t1 := two_lt ha
  have t2 := two_lt hb
  have t3 := or_lt hm' t1
  have wn : wrap64 ((i : Int) + 1) = ((i + 1 : Nat) : Int) := by unfold wrap64; omega
  have r0 : rd [(a : Int), (b : Int)] 0 = (a : Int) := rfl
  have r1 : rd [(a : Int), (b : Int)] 1 = (b : Int) := rfl
  have b0 := bit_nat s i (by omega) (by omega)
  have b1 := bit_nat m' a (by omega) (by omega)
  have b2 := bit_nat m' b (by omega) (by omega)
  have s1 := shl_nat a (by omega)
  have s2 := shl_nat b (by omega)
  have o1 := bits_or_nat m' (2 ^ a) (by omega) (by omega)
  have o2 := bits_or_nat (m' ||| 2 ^ a) (2 ^ b) (by omega) (by omega)
  have u0 := u64_nat a (by omega)
  have u1 := u64_nat b (by omega)
  have u2 := u64_nat i (by omega)
  have n0 : (0 : Int) ≤ (a : Int) := by omega
  have n1 : (0 : Int) ≤ (b : Int) := by omega
  have n2 : (0 : Int) ≤ (i : Int) := by omega
  have n3 : (i : Int) < (l.length : Int) := by omega
  have l0 : (0 : Int) < (([(a : Int), (b : Int)] : List Int).length : Int) := by simp
  have l1 : (1 : Int) < (([(a : Int), (b : Int)] : List Int).length : Int) := by simp
  generalize (2 ^ a : Nat) = pa at *
  generalize (2 ^ b : Nat) = pb at *
  simp only [spec_l10Reached.l1]
  rw [if_pos n3, if_pos n2, he, if_pos l0, r0, u0, if_pos n0, if_pos l1]
  rw [r1, u1, if_pos n1, u2, if_pos n2]
  rw [b0, b1, b2, s1, s2, o1, o2, wn]
  cases s.testBit i <;> cases m'.testBit a <;> cases m'.testBit b <;> simp
theorem reachS_out (p : Int) (l : List (List Int)) (hl : NetEdges l) (s f : Nat) (hs : s < 4611686018427387904) : ∀ (n m : Nat), 256 - m ≤ n → m.testBit f = true → Under (fun i => s.testBit i) l f m → m < 256 →
    ∃ c : Nat, Ev (fun k => spec_l10Reached.l0 k s m true p l) (c : Int) ∧ LeastSet (fun i => s.testBit i) l f c := by
  intro n
  induction n with
  | zero => intro m h _ _ h2; omega
  | succ n ih =>
    intro m hn hf hu hm
    have pass : ∀ (d i : Nat), i + d = l.length → ∀ (m' : Nat) (more : Bool), m'.testBit f = true → Under (fun i => s.testBit i) l f m' → m' < 256 → (more = false → m' = m ∧ ∀ j, j < i → s.testBit j = true → m.testBit (ea l j) = m.testBit (eb l j)) → (more = true → m < m') →
        ∃ c : Nat, Ev (fun k => spec_l10Reached.l1 k s m' more i p l) (c : Int) ∧ LeastSet (fun i => s.testBit i) l f c := by
      intro d
      induction d with
      | zero =>
        intro i hi m' more hf' hu' hm' h0 h1
        have st : ∀ k, spec_l10Reached.l1 (k + 1) s m' more i p l = spec_l10Reached.l0 k s m' more p l := fun k => by
          simp only [spec_l10Reached.l1]; rw [if_neg (by omega)]
        cases more with
        | false =>
          obtain ⟨rfl, hc⟩ := h0 rfl
          refine ⟨m', Ev.step st (Ev.step (f := fun _ => some _) (fun k => ?_) (Ev.now _)), hm', hf', fun j hj ha => hc j (by omega) ha, hu'⟩
          simp only [spec_l10Reached.l0]; rw [if_neg (by simp)]
        | true =>
          have hlt := h1 rfl
          obtain ⟨c, hc, hL⟩ := ih m' (by omega) hf' hu' hm'
          exact ⟨c, Ev.step st hc, hL⟩
      | succ d ihd =>
        intro i hi m' more hf' hu' hm' h0 h1
        have hlt : i < l.length := by omega
        obtain ⟨he, ha, hb⟩ := edge_at hl hlt
        have step := fun k => stepS p l s m' (ea l i) (eb l i) i more k hs hm' ha hb hlt hl.1 he
        by_cases hA : s.testBit i = true
        · by_cases hq : m'.testBit (ea l i) = m'.testBit (eb l i)
          · obtain ⟨c, hc, hL⟩ := ihd (i + 1) (by omega) m' more hf' hu' hm' (fun hm0 => ⟨(h0 hm0).1, fun j hj hsj => by
              by_cases hji : j < i
              · exact (h0 hm0).2 j hji hsj
              · obtain rfl : j = i := by omega
                rw [← (h0 hm0).1]; exact hq⟩) h1
            exact ⟨c, Ev.step (fun k => by rw [step k, if_pos hA, if_pos hq]) hc, hL⟩
          · have hor : m'.testBit (ea l i) = true ∨ m'.testBit (eb l i) = true := by
              cases h3 : m'.testBit (ea l i) <;> cases h4 : m'.testBit (eb l i) <;> simp_all
            have hne := or2_ne hq
            have hle : m ≤ m' := by
              cases more with
              | false => rw [(h0 rfl).1]; exact Nat.le_refl _
              | true => exact Nat.le_of_lt (h1 rfl)
            obtain ⟨c, hc, hL⟩ := ihd (i + 1) (by omega) _ true (bit_mono_or m' (ea l i) (eb l i) f hf') (under_or hu' hlt hA hor) (or_lt (or_lt hm' (two_lt ha)) (two_lt hb)) (fun h => by simp at h) (fun _ => by omega)
            exact ⟨c, Ev.step (fun k => by rw [step k, if_pos hA, if_neg hq]) hc, hL⟩
        · obtain ⟨c, hc, hL⟩ := ihd (i + 1) (by omega) m' more hf' hu' hm' (fun hm0 => ⟨(h0 hm0).1, fun j hj hsj => by
              by_cases hji : j < i
              · exact (h0 hm0).2 j hji hsj
              · obtain rfl : j = i := by omega
                exact absurd hsj hA⟩) h1
          exact ⟨c, Ev.step (fun k => by rw [step k, if_neg hA]) hc, hL⟩
    obtain ⟨c, hc, hL⟩ := pass l.length 0 (by omega) m false hf hu hm (fun _ => ⟨rfl, fun j hj => by omega⟩) (fun h => by simp at h)
    refine ⟨c, Ev.step (fun k => ?_) hc, hL⟩
    simp only [spec_l10Reached.l0]; rw [if_pos trivial]; rfl
-- A net's edges.
theorem netEdges {p : Int} {l : List (List Int)} (h : isNetV p l = true) : NetEdges l ∧ 2 ≤ p ∧ p ≤ 8 := by
  unfold isNetV at h
  simp only [Bool.and_eq_true, Bool.not_eq_true', decide_eq_false_iff_not] at h
  obtain ⟨⟨⟨h1, h2⟩, h3⟩, _⟩ := h
  unfold inW at h1
  simp only [Bool.and_eq_true, decide_eq_true_eq] at h1
  refine ⟨⟨by omega, fun e he => ?_⟩, h1.1, h1.2⟩
  have hb : edgeBad p e = false := by
    have := List.any_eq_false.1 h3 e he
    simpa using this
  obtain ⟨a, b, rfl, ha, hb2, _⟩ := edge_good hb
  unfold inW at ha hb2
  simp only [Bool.and_eq_true, decide_eq_true_eq] at ha hb2
  have e : wrap64 (p - 1) = p - 1 := by unfold wrap64; omega
  rw [e] at ha hb2
  refine ⟨a.toNat, b.toNat, ?_, by omega, by omega⟩
  rw [Int.toNat_of_nonneg ha.1, Int.toNat_of_nonneg hb2.1]

end Go.Proofs.YtcjeccohlmmfoaaDoor.F
