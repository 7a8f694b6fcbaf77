-- written by the session's program xp.py over the kit's print program, and by hand; texts joined by pack.py
import Derived.Test.YthmfpdkemkjpkaaDoorKFnExactParseFleet3
namespace Go.Proofs.YthmfpdkemkjpkaaDoor.F
open Go.RowKit Go.Proofs.YthmfpdkemkjpkaaDoorW.PrintWords Go.Proofs.YthmfpdkemkjpkaaDoorW.PrintLast Go.Proofs.YthmfpdkemkjpkaaDoorW.PrintMore
attribute [local go_sem] max2_int min2_int max_two min_two max_three min_three max_four min_four   -- for this text's walks alone
set_option linter.unusedVariables false
set_option linter.unusedSimpArgs false

/-! ### spec_l09Fleet: function 22 -/
mutual
def spec_l09Fleet.l0 : Nat → List Int → Int → Int → Int → Int → List Int → Option (Bool)
 | 0, _, _, _, _, _, _ => none
 | k + 1, x1, x5, x6, x176000, x176001, x176002 => if x6 < (x1.length : Int) then (if 0 ≤ x6 then (if x6 < (x176002.length : Int) then ((spec_l09Placements.f k x176000 x176001 x176002 (rd x176002 x6)).bind fun t177 => (spec_l09Fleet.l1 k x1 x5 x6 false t177 0 x176000 x176001 x176002)) else (none)) else (none)) else (some true)
def spec_l09Fleet.l1 : Nat → List Int → Int → Int → Bool → List Int → Int → Int → Int → List Int → Option (Bool)
 | 0, _, _, _, _, _, _, _, _, _ => none
 | k + 1, x1, x5, x6, x7, x8, x9, x176000, x176001, x176002 => if x9 < (x8.length : Int) then (if x7 = true then (spec_l09Fleet.l1 k x1 x5 x6 true x8 (wrap64 (x9 + 1)) x176000 x176001 x176002) else (if 0 ≤ x9 then (if 0 ≤ x6 then (if x6 < (x1.length : Int) then (spec_l09Fleet.l1 k x1 x5 x6 ((rd x8 x9) == (rd x1 x6)) x8 (wrap64 (x9 + 1)) x176000 x176001 x176002) else (none)) else (none)) else (none))) else (if x7 = true then (if 0 ≤ x6 then (if x6 < (x1.length : Int) then (if (Go.bits .and .i64 (rd x1 x6) x5) = 0 then (if x6 > 0 then (if x6 < (x176002.length : Int) then (if 0 ≤ (wrap64 (x6 - 1)) then (if (wrap64 (x6 - 1)) < (x176002.length : Int) then (if (rd x176002 x6) = (rd x176002 (wrap64 (x6 - 1))) then (if (wrap64 (x6 - 1)) < (x1.length : Int) then (if (rd x1 x6) < (rd x1 (wrap64 (x6 - 1))) then (some false) else (spec_l09Fleet.l0 k x1 (Go.bits .or .i64 x5 (rd x1 x6)) (wrap64 (x6 + 1)) x176000 x176001 x176002)) else (none)) else (spec_l09Fleet.l0 k x1 (Go.bits .or .i64 x5 (rd x1 x6)) (wrap64 (x6 + 1)) x176000 x176001 x176002)) else (none)) else (none)) else (none)) else (spec_l09Fleet.l0 k x1 (Go.bits .or .i64 x5 (rd x1 x6)) (wrap64 (x6 + 1)) x176000 x176001 x176002)) else (some false)) else (none)) else (none)) else (some false))
end
def spec_l09Fleet.f (k : Nat) (a0_0 : Int) (a0_1 : Int) (l0_2 : List Int) (l1 : List Int) : Option (Bool) := if (l1.length : Int) = (l0_2.length : Int) then (spec_l09Fleet.l0 k l1 0 0 a0_0 a0_1 l0_2) else (some false)
def spec_l09Fleet.T8 : Bool × List (List Nat × List Nat) := (true, [([], []), ([], []), ([1], [1]), ([], []), ([2, 3], [2, 3]), ([4], [4]), ([0, 5], [0, 5]), ([6, 6, 0, 1, 2, 3, 4, 5, 6], [6])])
def spec_l09Fleet.B8 : List Nat := [0, 0, 2, 0, 14, 30, 63, 127]
theorem spec_l09Fleet.tab8 : rtab .any (opsOf Tryd.f22 8) = spec_l09Fleet.T8 := by kernel_rfl
theorem spec_l09Fleet.bits8 : waitsOk spec_l09Fleet.T8.2 spec_l09Fleet.B8 = true := by kernel_rfl
def spec_l09Fleet.T12 : Bool × List (List Nat × List Nat) := (true, [([], []), ([0], [0]), ([1], [1]), ([1], [1]), ([2, 3, 1], [1, 2, 3]), ([4, 1], [1, 4]), ([1], [1]), ([1], [1]), ([6, 7, 1], [1, 6, 7]), ([8, 1], [1, 8]), ([5, 9, 1], [1, 5, 9]), ([1, 10], [1, 10]), ([11, 1, 0, 1, 2, 3, 4, 5, 6, 7, 8, 9, 10, 11], [0, 11])])
def spec_l09Fleet.B12 : List Nat := [0, 1, 3, 3, 15, 31, 3, 3, 195, 451, 1023, 2047, 4095]
theorem spec_l09Fleet.tab12 : rtab .any (opsOf Tryd.f22 12) = spec_l09Fleet.T12 := by kernel_rfl
theorem spec_l09Fleet.bits12 : waitsOk spec_l09Fleet.T12.2 spec_l09Fleet.B12 = true := by kernel_rfl
def spec_l09Fleet.T13 : Bool × List (List Nat × List Nat) := (true, [([], []), ([0], [0]), ([1], [1]), ([2], [2]), ([2], [2]), ([3, 4, 2], [2, 3, 4]), ([5, 2], [2, 5]), ([2], [2]), ([6, 7, 2], [2, 6, 7]), ([8, 2], [2, 8]), ([2, 9], [2, 9]), ([10, 2], [10]), ([11], [11]), ([12, 11], [11, 12]), ([13, 11, 11], [11, 13]), ([14], [14]), ([15, 14], [14, 15]), ([14], [14]), ([16, 17, 14], [14, 16, 17]), ([18, 14], [14, 18]), ([14], [14]), ([20, 14], [14, 20]), ([14], [14]), ([22, 14], [14, 22]), ([21, 23, 14], [14, 21, 23]), ([24, 14], [14, 24]), ([19, 25, 14], [14, 19, 25]), ([14, 26, 11], [11, 14, 26]), ([27, 14, 11], [11, 27]), ([28], [28]), ([28], [28]), ([29, 30, 28], [28, 29, 30]), ([31, 28], [28, 31]), ([28], [28]), ([28], [28]), ([34, 28], [28, 34]), ([33, 35, 28], [28, 33, 35]), ([36, 28], [28, 36]), ([32, 37, 28], [28, 32, 37]), ([28, 38, 11], [11, 28, 38]), ([11, 39], [11, 39])])
def spec_l09Fleet.B13 : List Nat := [0, 1, 3, 7, 7, 31, 63, 7, 255, 511, 1023, 2047, 4095, 8191, 16383, 32767, 65535, 32767, 262143, 524287, 32767, 1081343, 32767, 4227071, 15761407, 32538623, 67108863, 134217727, 268435455, 536870911, 536870911, 2147483647, 4294967295, 536870911, 536870911, 17716740095, 60666413055, 129385889791, 274877906943, 549755813887, 1099511627775]
theorem spec_l09Fleet.tab13 : rtab .any (opsOf Tryd.f22 13) = spec_l09Fleet.T13 := by kernel_rfl
theorem spec_l09Fleet.bits13 : waitsOk spec_l09Fleet.T13.2 spec_l09Fleet.B13 = true := by kernel_rfl
set_option maxHeartbeats 8000000 in
set_option maxRecDepth 100000 in
theorem spec_l09Fleet.calls (k : Nat) (a0_0 : Int) (a0_1 : Int) (A0_2 : Option Addr) (c0_2 : Nat) (l0_2 : List Int) (A1 : Option Addr) (c1 : Nat) (l1 : List Int) (r : Bool) (w : World) (hr0_2 : Kd.C (Kd.int .i64) w A0_2 l0_2.length l0_2) (hc0_2 : l0_2.length ≤ c0_2) (hr1 : Kd.C (Kd.int .i64) w A1 l1.length l1) (hc1 : l1.length ≤ c1) (h : spec_l09Fleet.f k a0_0 a0_1 l0_2 l1 = some r) :
  Calls Tryd.prog 22 #[.agg #[.int .i64 a0_0, .int .i64 a0_1, .slice A0_2 l0_2.length c0_2], .slice A1 l1.length c1] w fun e w' => e = .returned (.bool r) ∧ Below w.heap.size w w' := by
 have hu28 := Tryd.underlying28
 have HR0_2 := Aside0.mk hr0_2
 have HC0_2 := Aside0.mk hc0_2
 clear hr0_2 hc0_2
 have HR1 := Aside0.mk hr1
 have HC1 := Aside0.mk hc1
 clear hr1 hc1
 have HB := Aside0.mk (Below.refl w.heap.size w)
 have H : (if (l1.length : Int) = (l0_2.length : Int) then (spec_l09Fleet.l0 k l1 0 0 a0_0 a0_1 l0_2) else (some false)) = some r := h
 clear h
 by_cases c3 : (l1.length : Int) = (l0_2.length : Int)
 ·rw [if_pos c3] at H
  have c3b0 : ((l1.length : Int) == (l0_2.length : Int)) = true := beq_iff_eq.mpr c3
  have c3b1 : ((l1.length : Int) != (l0_2.length : Int)) = false := bne_eq_false_iff_eq.mpr c3
  have c3b2 : (l1.length == l0_2.length) = true := by first | simpa using c3 | (simp at c3 ⊢; omega)
  clear c3
  have H' := Aside0.mk H
  clear H
  go_enter Tryd.func22, Tryd.ntmps22
  go_wp2_with (first | ((with_reducible refine gate_dst (N := 2) rfl ?_); refine box_event ?hg (N := 2) ?hd (cs := #[.int .i64 a0_0, .int .i64 a0_1, .slice A0_2 l0_2.length c0_2]) (t := 28) ?hr ?_; (case hd => rfl); (case hg => rfl); (case hr => first | (go_simp; done) | (go_simp; rfl)); intro gb175 hg w4 hbox hb; have n0_ := Aside0.mk (below_step hb_ hb); have n1_ := Aside0.mk (hbox); have n2_ := Aside0.mk ((by rw [hg]; exact (below_size hb_) : w.heap.size ≤ gb175)); have n3_ := Aside0.mk ((by rw [hg]; exact (below_size hb_) : w.heap.size ≤ gb175)); clear HB; have HB := n0_; have BK175 := n1_; have GW175 := n2_; have GE175 := n3_; clear n0_ n1_ n2_ n3_; clear hb hbox hg; have hcz5_0 : w4.cell? ⟨gb175, 0, none⟩ = some (.int .i64 a0_0) := (blk_cell BK175.out 0).trans rfl; have hcz5_1 : w4.cell? ⟨gb175, 1, none⟩ = some (.int .i64 a0_1) := (blk_cell BK175.out 1).trans rfl; have hcz5_2 : w4.cell? ⟨gb175, 2, none⟩ = some (.slice A0_2 l0_2.length c0_2) := (blk_cell BK175.out 2).trans rfl; have hfz5_0 := blk_frozen BK175.out 0; have hfz5_1 := blk_frozen BK175.out 1; have hfz5_2 := blk_frozen BK175.out 2))
  go_loopg [5, 6] k (fun kq v5 v6 w' => ∃ (x5_1 : Int) (x6_1 : Int), v5 = .int .i64 x5_1 ∧ v6 = .int .i64 x6_1 ∧ Aside0 (spec_l09Fleet.l0 kq l1 x5_1 x6_1 a0_0 a0_1 l0_2 = some r) ∧ Aside0 (kq ≤ k) ∧ Aside0 (w'.heap[gb175]? = some (.cells #[.int .i64 a0_0, .int .i64 a0_1, (.slice A0_2 l0_2.length c0_2)] 28 (0, 0))) ∧ Aside0 (Below w.heap.size w w'))
  case atStart => exact ⟨(0), (0), (by first | rfl | (simp; done) | (simp [*]; done)), (by first | rfl | (simp; done) | (simp [*]; done)), H', ⟨Nat.le_refl _⟩, ⟨by (with_reducible repeat (first | refine blk_drewN ?_ _ | refine blk_drew ?_ | refine blk_alloc ?_ _)); exact BK175.out⟩, ⟨by repeat (first | (with_reducible first | exact HB.out | apply below_alloc | apply pw_below_drewN | apply below_drew1 | refine below_set ?_ GE175.out) | exact HB.out)⟩⟩
  case round =>
   clear H'
   (try clear c1); (try clear c2); (try clear p2); (try clear c3); (try clear c3b0); (try clear c3b1); (try clear c3b2); (try clear hcz5_0); (try clear hcz5_1); (try clear hcz5_2); (try clear hfz5_0); (try clear hfz5_1); (try clear hfz5_2)
   obtain ⟨x5_1, x6_1, rfl, rfl, HA, HK1, BK175, HB⟩ := hrel
   cases gk with
   | zero => exact absurd HA.out (by simp [spec_l09Fleet.l0])
   | succ k1 =>
    have H := HA.out
    clear HA
    simp only [spec_l09Fleet.l0] at H
    by_cases c6 : x6_1 < (l1.length : Int)
    ·rw [if_pos c6] at H
     have c6b0 : decide (x6_1 < (l1.length : Int)) = true := decide_eq_true c6
     clear c6
     by_cases c7 : 0 ≤ x6_1
     ·rw [if_pos c7] at H
      have c7b0 : decide (0 ≤ x6_1) = true := decide_eq_true c7
      clear c7
      by_cases c8 : x6_1 < (l0_2.length : Int)
      ·rw [if_pos c8] at H
       have c8b0 : decide (x6_1 < (l0_2.length : Int)) = true := decide_eq_true c8
       clear c8
       replace H := Option.bind_eq_some_iff.mp H
       obtain ⟨t177, A90, H⟩ := H
       replace H : (spec_l09Fleet.l1 k1 l1 x5_1 x6_1 false t177 0 a0_0 a0_1 l0_2) = some r := H
       have A9 := Aside0.mk A90
       clear A90
       have H' := Aside0.mk H
       clear H
       try go_wp2
       have n0_ := Aside0.mk (blk_drew BK175.out)
       have n1_ := Aside0.mk (below_drew1 HB.out)
       clear BK175
       clear HB
       have BK175 := n0_
       have HB := n1_
       clear n0_ n1_
       have p176 : 0 ≤ (x6_1 : Int) := oda
       have q176 : x6_1 < (l0_2.length : Int) := oda
       obtain ⟨ad176, e176, hx176_0⟩ := Kd.at_int HR0_2.out x6_1 p176 q176
       have hw176_0 := hx176_0
       cases e176
       replace hx176_0 := (HB.out.cell (World.block_lt_of_cell? w _ hx176_0)).trans hx176_0
       replace p176 := eq_true p176
       replace q176 := eq_true q176
       refine start_ (n := 8) (S := fun w' => w'.cell? ⟨gb175, 0, none⟩ = some (.int .i64 a0_0) ∧ w'.cell? ⟨gb175, 1, none⟩ = some (.int .i64 a0_1) ∧ w'.cell? ⟨gb175, 2, none⟩ = some (.slice (some ad176) l0_2.length c0_2) ∧ w'.cell? (ad176.add (x6_1).toNat) = some (.int .i64 (rd l0_2 x6_1))) (ds := []) #[false, false, false, false, false, false, false, false] (by kernel_rfl) rfl rfl ⟨(blk_cell BK175.out 0).trans rfl, (blk_cell BK175.out 1).trans rfl, (blk_cell BK175.out 2).trans rfl, ((HB.out.cell (World.block_lt_of_cell? w _ hw176_0)).trans hw176_0)⟩ (fun hHeld => ?_); refine with_tabW spec_l09Fleet.tab8 spec_l09Fleet.bits8 (fun HT_ HW_ => ?_)
       generalize wr.drew = w10 at BK175 HB hx176_0 hHeld ⊢
       refine pure_ (i := 1) (N := some 23) (v := ?_) (a' := ?_) (flg_ 8 2) rfl rfl (any_of HT_.out (by kernel_rfl)) (fun _ _ _ h => h) (Or.inl ⟨by rfl, ?_⟩) ?_ ?_
       rotate_left; (· (intro w'; go_simp; with_reducible rfl)); rotate_left; (· (simp only [Act.put, sz_, s0_, s1_, i64_w, i32_w]; rfl))
       refine pure_ (i := 3) (N := some 25) (v := ?_) (a' := ?_) (flg_ 8 10) rfl rfl (any_of HT_.out (by kernel_rfl)) (fun _ _ _ h => h) (Or.inl ⟨by rfl, ?_⟩) ?_ ?_
       rotate_left; (· (intro w'; go_simp; with_reducible rfl)); rotate_left; (· (simp only [Act.put, sz_, s0_, s1_, i64_w, i32_w]; rfl))
       refine take_ (i := 0) (N := some 22) (v := ?_) (a' := ?_) (flg_ 8 11) rfl rfl (take_ofW HT_.out HW_.out (by kernel_rfl)) (fun _ _ _ h => h) (Or.inl ⟨by rfl, ?_⟩) hHeld ?_ ?_
       rotate_left; (· (rintro w' ⟨s0, s1, s2, s3⟩; go_simp; with_reducible rfl)); rotate_left; (· (simp only [Act.put, sz_, s0_, s1_, i64_w, i32_w]; rfl))
       refine take_ (i := 2) (N := some 24) (v := ?_) (a' := ?_) (flg_ 8 15) rfl rfl (take_ofW HT_.out HW_.out (by kernel_rfl)) (fun _ _ _ h => h) (Or.inl ⟨by rfl, ?_⟩) hHeld ?_ ?_
       rotate_left; (· (rintro w' ⟨s0, s1, s2, s3⟩; go_simp; with_reducible rfl)); rotate_left; (· (simp only [Act.put, sz_, s0_, s1_, i64_w, i32_w]; rfl))
       refine pure_ (i := 4) (N := some 26) (v := ?_) (a' := ?_) (flg_ 8 31) rfl rfl (any_of HT_.out (by kernel_rfl)) (fun _ _ _ h => h) (Or.inl ⟨by rfl, ?_⟩) ?_ ?_
       rotate_left; (· (intro w'; go_simp; with_reducible rfl)); rotate_left; (· (simp only [Act.put, sz_, s0_, s1_, i64_w, i32_w]; rfl))
       refine take_ (i := 5) (N := some 27) (v := ?_) (a' := ?_) (flg_ 8 63) rfl rfl (take_ofW HT_.out HW_.out (by kernel_rfl)) (fun _ _ _ h => h) (Or.inl ⟨by rfl, ?_⟩) hHeld ?_ ?_
       rotate_left; (· (rintro w' ⟨s0, s1, s2, s3⟩; go_simp; with_reducible rfl)); rotate_left; (· (simp only [Act.put, sz_, s0_, s1_, i64_w, i32_w]; rfl))
       refine one_ (i := 6) (N := some 28) (flg_ 8 127) rfl rfl (one_of HT_.out (by kernel_rfl)) (by decide) (fun K hK => ?_)
       refine goes_ Tryd.func31 (by kernel_rfl) rfl #[.agg #[.int .i64 a0_0, .int .i64 a0_1, .slice (some ad176) l0_2.length c0_2], .int .i64 (rd l0_2 x6_1)] (by rfl) rfl rfl (by (try simp only [List.map_toArray, List.map_cons, List.map_nil]); first | done | rfl | (simp only [List.length_drop, List.length_take]; rfl)) ?_
       with_reducible refine (spec_l09Placements.calls k1 a0_0 a0_1 _ _ l0_2 (rd l0_2 x6_1) t177 _ ?side1 ?side2 A9.out).mono ?_
       (case side1 => repeat (first | exact (Kd.C_below HR0_2.out HB.out) | (with_reducible refine Kd.C_alloc ?_ _) | (with_reducible refine Kd.C_drewN ?_ _) | (with_reducible refine Kd.C_drew ?_)))
       (case side2 => exact HC0_2.out)
       rintro e w11 ⟨v178, rfl, ho0, hb⟩
       refine ⟨_, rfl, ?_⟩
       have n0_ := Aside0.mk (Kd.R_lower ho0 (below_size (by repeat (first | (with_reducible first | exact HB.out | apply below_alloc | apply pw_below_drewN | apply below_drew1 | refine below_set ?_ GE175.out) | exact HB.out))))
       have n1_ := Aside0.mk (blk_below (g := gb175) (o := .cells #[.int .i64 a0_0, .int .i64 a0_1, .slice (some ad176) l0_2.length c0_2] 28 (0, 0)) (by (with_reducible repeat (first | refine blk_drewN ?_ _ | refine blk_drew ?_ | refine blk_alloc ?_ _)); exact BK175.out) hb)
       have n2_ := Aside0.mk (below_step (by repeat (first | (with_reducible first | exact HB.out | apply below_alloc | apply pw_below_drewN | apply below_drew1 | refine below_set ?_ GE175.out) | exact HB.out)) hb)
       clear BK175
       clear HB
       have HO179 := n0_
       have BK175 := n1_
       have HB := n2_
       clear n0_ n1_ n2_
       (try clear hb)
       (try clear hb2)
       (try clear hk)
       (try clear hi)
       (try clear ho0)
       refine hK.out _ _ ⟨(blk_cell BK175.out 0).trans rfl, (blk_cell BK175.out 1).trans rfl, (blk_cell BK175.out 2).trans rfl, ((HB.out.cell (World.block_lt_of_cell? w _ hw176_0)).trans hw176_0)⟩ (fun hHeld => ?_)
       clear hK K
       refine norm_ (a' := ?_) ?_ ?_
       rotate_left
       ·show Act.put _ (some 28) _ = _
        simp only [Act.put, sz_, s0_, s1_, i64_w, i32_w]
        rfl
       refine pure_ (i := 7) (N := some 8) (v := ?_) (a' := ?_) (flg_ 8 255) rfl rfl (any_of HT_.out (by kernel_rfl)) (fun _ _ _ h => h) (Or.inl ⟨by rfl, ?_⟩) ?_ ?_
       rotate_left; (· (intro w'; go_simp; with_reducible rfl)); rotate_left; (· (simp only [Act.put, sz_, s0_, s1_, i64_w, i32_w]; rfl))
       refine done_ (done_of HT_.out (by kernel_rfl)) ?_
       try go_wp2
       go_loopg [7, 9] k1 (fun kq v7 v9 w' => ∃ (x7_2 : Bool) (x9_2 : Int), v7 = .bool x7_2 ∧ v9 = .int .i64 x9_2 ∧ Aside0 (spec_l09Fleet.l1 kq l1 x5_1 x6_1 x7_2 t177 x9_2 a0_0 a0_1 l0_2 = some r) ∧ Aside0 (kq ≤ k1) ∧ Aside0 (Kd.R (Kd.int .i64) 2 w' w.heap.size (fun _ => True) v178 t177) ∧ Aside0 (w'.heap[gb175]? = some (.cells #[.int .i64 a0_0, .int .i64 a0_1, (.slice (some ad176) l0_2.length c0_2)] 28 (0, 0))) ∧ Aside0 (Below w.heap.size w w'))
       case atStart => exact ⟨(false), (0), (by first | rfl | (simp; done) | (simp [*]; done)), (by first | rfl | (simp; done) | (simp [*]; done)), H', ⟨Nat.le_refl _⟩, ⟨by (with_reducible repeat (first | apply Kd.R_alloc | apply Kd.R_drewN | apply Kd.R_drew)); exact HO179.out⟩, ⟨by (with_reducible repeat (first | refine blk_drewN ?_ _ | refine blk_drew ?_ | refine blk_alloc ?_ _)); exact BK175.out⟩, ⟨by repeat (first | (with_reducible first | exact HB.out | apply below_alloc | apply pw_below_drewN | apply below_drew1 | refine below_set ?_ GE175.out) | exact HB.out)⟩⟩
       case round =>
        clear H'
        (try clear c1); (try clear p1); (try clear q1); (try clear hx1); (try clear c2); (try clear p2); (try clear c3); (try clear c3b0); (try clear c3b1); (try clear c3b2); (try clear c6); (try clear c6b0); (try clear c7); (try clear c7b0); (try clear c8); (try clear c8b0); (try clear hcz5_0); (try clear hcz5_1); (try clear hcz5_2); (try clear hfz5_0); (try clear hfz5_1); (try clear hfz5_2); (try clear hx176_0); (try clear p176); (try clear p2); (try clear q176)
        obtain ⟨x7_2, x9_2, rfl, rfl, HA, HK2, HO_8, BK175, HB⟩ := hrel
        cases gk with
        | zero => exact absurd HA.out (by simp [spec_l09Fleet.l1])
        | succ k2 =>
         have H := HA.out
         clear HA
         simp only [spec_l09Fleet.l1] at H
         by_cases c12 : x9_2 < (t177.length : Int)
         ·rw [if_pos c12] at H
          have c12b0 : decide (x9_2 < (t177.length : Int)) = true := decide_eq_true c12
          clear c12
          by_cases c13 : x7_2 = true
          ·subst c13
           have H1 : (spec_l09Fleet.l1 k2 l1 x5_1 x6_1 true t177 (wrap64 (x9_2 + 1)) a0_0 a0_1 l0_2) = some r := by rw [if_pos rfl] at H; exact H
           clear H
           have H := H1
           clear H1
           have H' := Aside0.mk H
           clear H
           obtain ⟨Ao14, co14, eo14⟩ := Kd.R_slice HO_8.out
           subst eo14
           try go_wp2
           have n0_ := Aside0.mk (Kd.R_drew HO_8.out)
           have n1_ := Aside0.mk (blk_drew BK175.out)
           have n2_ := Aside0.mk (below_drew1 HB.out)
           clear HO_8
           clear BK175
           clear HB
           have HO_8 := n0_
           have BK175 := n1_
           have HB := n2_
           clear n0_ n1_ n2_
           refine start_ (n := 13) (S := fun w' => True) (ds := []) #[false, false, false, false, false, false, false, false, false, false, false, false, false] (by kernel_rfl) rfl rfl trivial (fun hHeld => ?_); refine with_tabW spec_l09Fleet.tab12 spec_l09Fleet.bits12 (fun HT_ HW_ => ?_)
           generalize wr.drew = w15 at HO_8 BK175 HB hHeld ⊢
           refine pure_ (i := 0) (N := some 35) (v := ?_) (a' := ?_) (flg_ 13 1) rfl rfl (any_of HT_.out (by kernel_rfl)) (fun _ _ _ h => h) (Or.inl ⟨by rfl, ?_⟩) ?_ ?_
           rotate_left; (· (intro w'; go_simp; with_reducible rfl)); rotate_left; (· (simp only [Act.put, sz_, s0_, s1_, i64_w, i32_w]; rfl))
           refine pure_ (i := 1) (N := some 36) (v := ?_) (a' := ?_) (flg_ 13 3) rfl rfl (any_of HT_.out (by kernel_rfl)) (fun _ _ _ h => h) (Or.inl ⟨by rfl, ?_⟩) ?_ ?_
           rotate_left; (· (intro w'; go_simp; with_reducible rfl)); rotate_left; (· (simp only [Act.put, sz_, s0_, s1_, i64_w, i32_w]; rfl))
           refine pure_ (i := 2) (N := some 37) (v := undef) (a' := ?_) (flg_ 13 7) rfl rfl (any_of HT_.out (by kernel_rfl)) (fun _ _ _ h => h) (Or.inr ⟨by rfl, rfl⟩) ?_ ?_
           rotate_left
           ·simp only [Act.put, sz_, s0_, s1_, i64_w, i32_w]
            rfl
           refine pure_ (i := 3) (N := some 38) (v := undef) (a' := ?_) (flg_ 13 15) rfl rfl (any_of HT_.out (by kernel_rfl)) (fun _ _ _ h => h) (Or.inr ⟨by rfl, rfl⟩) ?_ ?_
           rotate_left
           ·simp only [Act.put, sz_, s0_, s1_, i64_w, i32_w]
            rfl
           refine pure_ (i := 4) (N := some 39) (v := undef) (a' := ?_) (flg_ 13 31) rfl rfl (any_of HT_.out (by kernel_rfl)) (fun _ _ _ h => h) (Or.inr ⟨by rfl, rfl⟩) ?_ ?_
           rotate_left
           ·simp only [Act.put, sz_, s0_, s1_, i64_w, i32_w]
            rfl
           refine pure_ (i := 5) (N := some 40) (v := undef) (a' := ?_) (flg_ 13 63) rfl rfl (any_of HT_.out (by kernel_rfl)) (fun _ _ _ h => h) (Or.inr ⟨by rfl, rfl⟩) ?_ ?_
           rotate_left
           ·simp only [Act.put, sz_, s0_, s1_, i64_w, i32_w]
            rfl
           refine pure_ (i := 6) (N := some 41) (v := undef) (a' := ?_) (flg_ 13 127) rfl rfl (any_of HT_.out (by kernel_rfl)) (fun _ _ _ h => h) (Or.inr ⟨by rfl, rfl⟩) ?_ ?_
           rotate_left
           ·simp only [Act.put, sz_, s0_, s1_, i64_w, i32_w]
            rfl
           refine pure_ (i := 7) (N := some 42) (v := undef) (a' := ?_) (flg_ 13 255) rfl rfl (any_of HT_.out (by kernel_rfl)) (fun _ _ _ h => h) (Or.inr ⟨by rfl, rfl⟩) ?_ ?_
           rotate_left
           ·simp only [Act.put, sz_, s0_, s1_, i64_w, i32_w]
            rfl
           refine pure_ (i := 8) (N := some 43) (v := undef) (a' := ?_) (flg_ 13 511) rfl rfl (any_of HT_.out (by kernel_rfl)) (fun _ _ _ h => h) (Or.inr ⟨by rfl, rfl⟩) ?_ ?_
           rotate_left
           ·simp only [Act.put, sz_, s0_, s1_, i64_w, i32_w]
            rfl
           refine pure_ (i := 9) (N := some 44) (v := undef) (a' := ?_) (flg_ 13 1023) rfl rfl (any_of HT_.out (by kernel_rfl)) (fun _ _ _ h => h) (Or.inr ⟨by rfl, rfl⟩) ?_ ?_
           rotate_left
           ·simp only [Act.put, sz_, s0_, s1_, i64_w, i32_w]
            rfl
           refine pure_ (i := 10) (N := some 45) (v := undef) (a' := ?_) (flg_ 13 2047) rfl rfl (any_of HT_.out (by kernel_rfl)) (fun _ _ _ h => h) (Or.inr ⟨by rfl, rfl⟩) ?_ ?_
           rotate_left
           ·simp only [Act.put, sz_, s0_, s1_, i64_w, i32_w]
            rfl
           refine pure_ (i := 11) (N := some 46) (v := ?_) (a' := ?_) (flg_ 13 4095) rfl rfl (any_of HT_.out (by kernel_rfl)) (fun _ _ _ h => h) (Or.inl ⟨by rfl, ?_⟩) ?_ ?_
           rotate_left; (· (intro w'; go_simp; with_reducible rfl)); rotate_left; (· (simp only [Act.put, sz_, s0_, s1_, i64_w, i32_w]; rfl))
           refine pure_ (i := 12) (N := some 7) (v := ?_) (a' := ?_) (flg_ 13 8191) rfl rfl (any_of HT_.out (by kernel_rfl)) (fun _ _ _ h => h) (Or.inl ⟨by rfl, ?_⟩) ?_ ?_
           rotate_left; (· (intro w'; go_simp; with_reducible rfl)); rotate_left; (· (simp only [Act.put, sz_, s0_, s1_, i64_w, i32_w]; rfl))
           refine done_ (done_of HT_.out (by kernel_rfl)) ?_
           try go_wp2
           go_roundg k2
           case measure => have := HK1.out; have := HK2.out; omega
           case rel => exact ⟨(true), (wrap64 (x9_2 + 1)), (by first | rfl | (simp; done) | (simp [*]; done)), (by first | rfl | (simp; done) | (simp [*]; done)), H', ⟨by have := HK1.out; have := HK2.out; omega⟩, ⟨by (with_reducible repeat (first | apply Kd.R_alloc | apply Kd.R_drewN | apply Kd.R_drew)); exact HO_8.out⟩, ⟨by (with_reducible repeat (first | refine blk_drewN ?_ _ | refine blk_drew ?_ | refine blk_alloc ?_ _)); exact BK175.out⟩, ⟨by repeat (first | (with_reducible first | exact HB.out | apply below_alloc | apply pw_below_drewN | apply below_drew1 | refine below_set ?_ GE175.out) | exact HB.out)⟩⟩
          ·replace c13 := Bool.eq_false_iff.mpr c13
           subst c13
           have H1 : (if 0 ≤ x9_2 then (if 0 ≤ x6_1 then (if x6_1 < (l1.length : Int) then (spec_l09Fleet.l1 k2 l1 x5_1 x6_1 ((rd t177 x9_2) == (rd l1 x6_1)) t177 (wrap64 (x9_2 + 1)) a0_0 a0_1 l0_2) else (none)) else (none)) else (none)) = some r := by rw [if_neg (show ¬ (false = true) by decide)] at H; exact H
           clear H
           have H := H1
           clear H1
           by_cases c16 : 0 ≤ x9_2
           ·rw [if_pos c16] at H
            have c16b0 : decide (0 ≤ x9_2) = true := decide_eq_true c16
            clear c16
            by_cases c17 : 0 ≤ x6_1
            ·rw [if_pos c17] at H
             have c17b0 : decide (0 ≤ x6_1) = true := decide_eq_true c17
             clear c17
             by_cases c18 : x6_1 < (l1.length : Int)
             ·rw [if_pos c18] at H
              have c18b0 : decide (x6_1 < (l1.length : Int)) = true := decide_eq_true c18
              clear c18
              have H' := Aside0.mk H
              clear H
              obtain ⟨Ao19, co19, eo19⟩ := Kd.R_slice HO_8.out
              subst eo19
              try go_wp2
              have n0_ := Aside0.mk (Kd.R_drew HO_8.out)
              have n1_ := Aside0.mk (blk_drew BK175.out)
              have n2_ := Aside0.mk (below_drew1 HB.out)
              clear HO_8
              clear BK175
              clear HB
              have HO_8 := n0_
              have BK175 := n1_
              have HB := n2_
              clear n0_ n1_ n2_
              have p180 : 0 ≤ (x9_2 : Int) := oda
              have q180 : x9_2 < (t177.length : Int) := oda
              obtain ⟨ad180, e180, hx180_0⟩ := Kd.at_int (Kd.R_reads' HO_8.out).2.2 x9_2 p180 q180
              cases e180
              replace p180 := eq_true p180
              replace q180 := eq_true q180
              have p181 : 0 ≤ (x6_1 : Int) := oda
              have q181 : x6_1 < (l1.length : Int) := oda
              obtain ⟨ad181, e181, hx181_0⟩ := Kd.at_int HR1.out x6_1 p181 q181
              have hw181_0 := hx181_0
              cases e181
              replace hx181_0 := (HB.out.cell (World.block_lt_of_cell? w _ hx181_0)).trans hx181_0
              replace p181 := eq_true p181
              replace q181 := eq_true q181
              refine start_ (n := 13) (S := fun w' => w'.cell? (ad180.add (x9_2).toNat) = some (.int .i64 (rd t177 x9_2)) ∧ w'.cell? (ad181.add (x6_1).toNat) = some (.int .i64 (rd l1 x6_1))) (ds := []) #[false, false, false, false, false, false, false, false, false, false, false, false, false] (by kernel_rfl) rfl rfl ⟨hx180_0, ((HB.out.cell (World.block_lt_of_cell? w _ hw181_0)).trans hw181_0)⟩ (fun hHeld => ?_); refine with_tabW spec_l09Fleet.tab12 spec_l09Fleet.bits12 (fun HT_ HW_ => ?_)
              generalize wr.drew = w20 at HO_8 BK175 HB hx180_0 hx181_0 hHeld ⊢
              refine pure_ (i := 0) (N := some 35) (v := ?_) (a' := ?_) (flg_ 13 1) rfl rfl (any_of HT_.out (by kernel_rfl)) (fun _ _ _ h => h) (Or.inl ⟨by rfl, ?_⟩) ?_ ?_
              rotate_left; (· (intro w'; go_simp; with_reducible rfl)); rotate_left; (· (simp only [Act.put, sz_, s0_, s1_, i64_w, i32_w]; rfl))
              refine pure_ (i := 1) (N := some 36) (v := ?_) (a' := ?_) (flg_ 13 3) rfl rfl (any_of HT_.out (by kernel_rfl)) (fun _ _ _ h => h) (Or.inl ⟨by rfl, ?_⟩) ?_ ?_
              rotate_left; (· (intro w'; go_simp; with_reducible rfl)); rotate_left; (· (simp only [Act.put, sz_, s0_, s1_, i64_w, i32_w]; rfl))
              refine pure_ (i := 2) (N := some 37) (v := ?_) (a' := ?_) (flg_ 13 7) rfl rfl (any_of HT_.out (by kernel_rfl)) (fun _ _ _ h => h) (Or.inl ⟨by rfl, ?_⟩) ?_ ?_
              rotate_left; (· (intro w'; go_simp; with_reducible rfl)); rotate_left; (· (simp only [Act.put, sz_, s0_, s1_, i64_w, i32_w]; rfl))
              refine pure_ (i := 3) (N := some 38) (v := ?_) (a' := ?_) (flg_ 13 15) rfl rfl (any_of HT_.out (by kernel_rfl)) (fun _ _ _ h => h) (Or.inl ⟨by rfl, ?_⟩) ?_ ?_
              rotate_left; (· (intro w'; go_simp; with_reducible rfl)); rotate_left; (· (simp only [Act.put, sz_, s0_, s1_, i64_w, i32_w]; rfl))
              refine pure_ (i := 4) (N := some 39) (v := ?_) (a' := ?_) (flg_ 13 31) rfl rfl (any_of HT_.out (by kernel_rfl)) (fun _ _ _ h => h) (Or.inl ⟨by rfl, ?_⟩) ?_ ?_
              rotate_left; (· (intro w'; go_simp; with_reducible rfl)); rotate_left; (· (simp only [Act.put, sz_, s0_, s1_, i64_w, i32_w]; rfl))
              refine pure_ (i := 6) (N := some 41) (v := ?_) (a' := ?_) (flg_ 13 95) rfl rfl (any_of HT_.out (by kernel_rfl)) (fun _ _ _ h => h) (Or.inl ⟨by rfl, ?_⟩) ?_ ?_
              rotate_left; (· (intro w'; go_simp; with_reducible rfl)); rotate_left; (· (simp only [Act.put, sz_, s0_, s1_, i64_w, i32_w]; rfl))
              refine pure_ (i := 7) (N := some 42) (v := ?_) (a' := ?_) (flg_ 13 223) rfl rfl (any_of HT_.out (by kernel_rfl)) (fun _ _ _ h => h) (Or.inl ⟨by rfl, ?_⟩) ?_ ?_
              rotate_left; (· (intro w'; go_simp; with_reducible rfl)); rotate_left; (· (simp only [Act.put, sz_, s0_, s1_, i64_w, i32_w]; rfl))
              refine pure_ (i := 8) (N := some 43) (v := ?_) (a' := ?_) (flg_ 13 479) rfl rfl (any_of HT_.out (by kernel_rfl)) (fun _ _ _ h => h) (Or.inl ⟨by rfl, ?_⟩) ?_ ?_
              rotate_left; (· (intro w'; go_simp; with_reducible rfl)); rotate_left; (· (simp only [Act.put, sz_, s0_, s1_, i64_w, i32_w]; rfl))
              refine take_ (i := 5) (N := some 40) (v := ?_) (a' := ?_) (flg_ 13 511) rfl rfl (take_ofW HT_.out HW_.out (by kernel_rfl)) (fun _ _ _ h => h) (Or.inl ⟨by rfl, ?_⟩) hHeld ?_ ?_
              rotate_left; (· (rintro w' ⟨s0, s1⟩; go_simp; with_reducible rfl)); rotate_left; (· (simp only [Act.put, sz_, s0_, s1_, i64_w, i32_w]; rfl))
              refine take_ (i := 9) (N := some 44) (v := ?_) (a' := ?_) (flg_ 13 1023) rfl rfl (take_ofW HT_.out HW_.out (by kernel_rfl)) (fun _ _ _ h => h) (Or.inl ⟨by rfl, ?_⟩) hHeld ?_ ?_
              rotate_left; (· (rintro w' ⟨s0, s1⟩; go_simp; with_reducible rfl)); rotate_left; (· (simp only [Act.put, sz_, s0_, s1_, i64_w, i32_w]; rfl))
              refine pure_ (i := 10) (N := some 45) (v := ?_) (a' := ?_) (flg_ 13 2047) rfl rfl (any_of HT_.out (by kernel_rfl)) (fun _ _ _ h => h) (Or.inl ⟨by rfl, ?_⟩) ?_ ?_
              rotate_left; (· (intro w'; go_simp; with_reducible rfl)); rotate_left; (· (simp only [Act.put, sz_, s0_, s1_, i64_w, i32_w]; rfl))
              refine pure_ (i := 11) (N := some 46) (v := ?_) (a' := ?_) (flg_ 13 4095) rfl rfl (any_of HT_.out (by kernel_rfl)) (fun _ _ _ h => h) (Or.inl ⟨by rfl, ?_⟩) ?_ ?_
              rotate_left; (· (intro w'; go_simp; with_reducible rfl)); rotate_left; (· (simp only [Act.put, sz_, s0_, s1_, i64_w, i32_w]; rfl))
              refine pure_ (i := 12) (N := some 7) (v := ?_) (a' := ?_) (flg_ 13 8191) rfl rfl (any_of HT_.out (by kernel_rfl)) (fun _ _ _ h => h) (Or.inl ⟨by rfl, ?_⟩) ?_ ?_
              rotate_left; (· (intro w'; go_simp; with_reducible rfl)); rotate_left; (· (simp only [Act.put, sz_, s0_, s1_, i64_w, i32_w]; rfl))
              refine done_ (done_of HT_.out (by kernel_rfl)) ?_
              try go_wp2
              go_roundg k2
              case measure => have := HK1.out; have := HK2.out; omega
              case rel => exact ⟨(((rd t177 x9_2) == (rd l1 x6_1))), (wrap64 (x9_2 + 1)), (by first | rfl | (simp; done) | (simp [*]; done)), (by first | rfl | (simp; done) | (simp [*]; done)), H', ⟨by have := HK1.out; have := HK2.out; omega⟩, ⟨by (with_reducible repeat (first | apply Kd.R_alloc | apply Kd.R_drewN | apply Kd.R_drew)); exact HO_8.out⟩, ⟨by (with_reducible repeat (first | refine blk_drewN ?_ _ | refine blk_drew ?_ | refine blk_alloc ?_ _)); exact BK175.out⟩, ⟨by repeat (first | (with_reducible first | exact HB.out | apply below_alloc | apply pw_below_drewN | apply below_drew1 | refine below_set ?_ GE175.out) | exact HB.out)⟩⟩
             ·rw [if_neg c18] at H
              exact absurd H (by simp)
            ·rw [if_neg c17] at H
             exact absurd H (by simp)
           ·rw [if_neg c16] at H
            exact absurd H (by simp)
         ·rw [if_neg c12] at H
          have c12b0 : decide (x9_2 < (t177.length : Int)) = false := decide_eq_false c12
          clear c12
          by_cases c21 : x7_2 = true
          ·subst c21
           have H1 : (if 0 ≤ x6_1 then (if x6_1 < (l1.length : Int) then (if (Go.bits .and .i64 (rd l1 x6_1) x5_1) = 0 then (if x6_1 > 0 then (if x6_1 < (l0_2.length : Int) then (if 0 ≤ (wrap64 (x6_1 - 1)) then (if (wrap64 (x6_1 - 1)) < (l0_2.length : Int) then (if (rd l0_2 x6_1) = (rd l0_2 (wrap64 (x6_1 - 1))) then (if (wrap64 (x6_1 - 1)) < (l1.length : Int) then (if (rd l1 x6_1) < (rd l1 (wrap64 (x6_1 - 1))) then (some false) else (spec_l09Fleet.l0 k2 l1 (Go.bits .or .i64 x5_1 (rd l1 x6_1)) (wrap64 (x6_1 + 1)) a0_0 a0_1 l0_2)) else (none)) else (spec_l09Fleet.l0 k2 l1 (Go.bits .or .i64 x5_1 (rd l1 x6_1)) (wrap64 (x6_1 + 1)) a0_0 a0_1 l0_2)) else (none)) else (none)) else (none)) else (spec_l09Fleet.l0 k2 l1 (Go.bits .or .i64 x5_1 (rd l1 x6_1)) (wrap64 (x6_1 + 1)) a0_0 a0_1 l0_2)) else (some false)) else (none)) else (none)) = some r := by rw [if_pos rfl] at H; exact H
           clear H
           have H := H1
           clear H1
           by_cases c22 : 0 ≤ x6_1
           ·rw [if_pos c22] at H
            have c22b0 : decide (0 ≤ x6_1) = true := decide_eq_true c22
            clear c22
            by_cases c23 : x6_1 < (l1.length : Int)
            ·rw [if_pos c23] at H
             have c23b0 : decide (x6_1 < (l1.length : Int)) = true := decide_eq_true c23
             clear c23
             by_cases c24 : (Go.bits .and .i64 (rd l1 x6_1) x5_1) = 0
             ·rw [if_pos c24] at H
              have c24b0 : ((Go.bits .and .i64 (rd l1 x6_1) x5_1) == 0) = true := beq_iff_eq.mpr c24
              have c24b1 : ((Go.bits .and .i64 (rd l1 x6_1) x5_1) != 0) = false := bne_eq_false_iff_eq.mpr c24
              clear c24
              by_cases c25 : x6_1 > 0
              ·rw [if_pos c25] at H
               have c25b0 : decide (0 < x6_1) = true := decide_eq_true c25
               clear c25
               by_cases c26 : x6_1 < (l0_2.length : Int)
               ·rw [if_pos c26] at H
                have c26b0 : decide (x6_1 < (l0_2.length : Int)) = true := decide_eq_true c26
                clear c26
                obtain ⟨ji27, hji27⟩ : ∃ j_ : Int, (wrap64 (x6_1 - 1)) = j_ := ⟨_, rfl⟩
                replace H : (if 0 ≤ (ji27) then (if (ji27) < (l0_2.length : Int) then (if (rd l0_2 x6_1) = (rd l0_2 (ji27)) then (if (ji27) < (l1.length : Int) then (if (rd l1 x6_1) < (rd l1 (ji27)) then (some false) else (spec_l09Fleet.l0 k2 l1 (Go.bits .or .i64 x5_1 (rd l1 x6_1)) (wrap64 (x6_1 + 1)) a0_0 a0_1 l0_2)) else (none)) else (spec_l09Fleet.l0 k2 l1 (Go.bits .or .i64 x5_1 (rd l1 x6_1)) (wrap64 (x6_1 + 1)) a0_0 a0_1 l0_2)) else (none)) else (none)) = some r := by first | (rw [hji27] at H; exact H) | (simp only [hji27] at H ⊢; exact H)
                have hji27w : (IntKind.i64.wrap (x6_1 - 1)) = ji27 := (i64_w _).trans hji27
                by_cases c28 : 0 ≤ (ji27)
                ·rw [if_pos c28] at H
                 have c28b0 : decide (0 ≤ (ji27)) = true := decide_eq_true c28
                 clear c28
                 by_cases c29 : (ji27) < (l0_2.length : Int)
                 ·rw [if_pos c29] at H
                  have c29b0 : decide ((ji27) < (l0_2.length : Int)) = true := decide_eq_true c29
                  clear c29
                  by_cases c30 : (rd l0_2 x6_1) = (rd l0_2 (ji27))
                  ·rw [if_pos c30] at H
                   have c30b0 : ((rd l0_2 x6_1) == (rd l0_2 (ji27))) = true := beq_iff_eq.mpr c30
                   have c30b1 : ((rd l0_2 x6_1) != (rd l0_2 (ji27))) = false := bne_eq_false_iff_eq.mpr c30
                   clear c30
                   by_cases c31 : (ji27) < (l1.length : Int)
                   ·rw [if_pos c31] at H
                    have c31b0 : decide ((ji27) < (l1.length : Int)) = true := decide_eq_true c31
                    clear c31
                    by_cases c32 : (rd l1 x6_1) < (rd l1 (ji27))
                    ·rw [if_pos c32] at H
                     have c32b0 : decide ((rd l1 x6_1) < (rd l1 (ji27))) = true := decide_eq_true c32
                     clear c32
                     obtain rfl := Option.some.inj H
                     obtain ⟨Ao33, co33, eo33⟩ := Kd.R_slice HO_8.out
                     subst eo33
                     try go_wp2
                     have n0_ := Aside0.mk (Kd.R_drew HO_8.out)
                     have n1_ := Aside0.mk (blk_drew BK175.out)
                     have n2_ := Aside0.mk (below_drew1 HB.out)
                     clear HO_8
                     clear BK175
                     clear HB
                     have HO_8 := n0_
                     have BK175 := n1_
                     have HB := n2_
                     clear n0_ n1_ n2_
                     have p182 : 0 ≤ (x6_1 : Int) := oda
                     have q182 : x6_1 < (l1.length : Int) := oda
                     obtain ⟨ad182, e182, hx182_0⟩ := Kd.at_int HR1.out x6_1 p182 q182
                     have hw182_0 := hx182_0
                     cases e182
                     replace hx182_0 := (HB.out.cell (World.block_lt_of_cell? w _ hx182_0)).trans hx182_0
                     replace p182 := eq_true p182
                     replace q182 := eq_true q182
                     have p183 : 0 ≤ (x6_1 : Int) := oda
                     have q183 : x6_1 < (l0_2.length : Int) := oda
                     obtain ⟨ad183, e183, hx183_0⟩ := Kd.at_int HR0_2.out x6_1 p183 q183
                     have hw183_0 := hx183_0
                     obtain rfl : ad176 = ad183 := (by injection e183)
                     replace hx183_0 := (HB.out.cell (World.block_lt_of_cell? w _ hx183_0)).trans hx183_0
                     replace p183 := eq_true p183
                     replace q183 := eq_true q183
                     have p184 : 0 ≤ ((ji27) : Int) := oda
                     have q184 : (ji27) < (l0_2.length : Int) := oda
                     obtain ⟨ad184, e184, hx184_0⟩ := Kd.at_int HR0_2.out (ji27) p184 q184
                     have hw184_0 := hx184_0
                     obtain rfl : ad176 = ad184 := (by injection e184)
                     replace hx184_0 := (HB.out.cell (World.block_lt_of_cell? w _ hx184_0)).trans hx184_0
                     replace p184 := eq_true p184
                     replace q184 := eq_true q184
                     have p185 : 0 ≤ (x6_1 : Int) := oda
                     have q185 : x6_1 < (l1.length : Int) := oda
                     obtain ⟨ad185, e185, hx185_0⟩ := Kd.at_int HR1.out x6_1 p185 q185
                     have hw185_0 := hx185_0
                     obtain rfl : ad182 = ad185 := (by injection e185)
                     replace hx185_0 := (HB.out.cell (World.block_lt_of_cell? w _ hx185_0)).trans hx185_0
                     replace p185 := eq_true p185
                     replace q185 := eq_true q185
                     have p186 : 0 ≤ ((ji27) : Int) := oda
                     have q186 : (ji27) < (l1.length : Int) := oda
                     obtain ⟨ad186, e186, hx186_0⟩ := Kd.at_int HR1.out (ji27) p186 q186
                     have hw186_0 := hx186_0
                     obtain rfl : ad182 = ad186 := (by injection e186)
                     replace hx186_0 := (HB.out.cell (World.block_lt_of_cell? w _ hx186_0)).trans hx186_0
                     replace p186 := eq_true p186
                     replace q186 := eq_true q186
                     refine start_ (n := 41) (S := fun w' => w'.cell? ⟨gb175, 0, none⟩ = some (.int .i64 a0_0) ∧ w'.cell? ⟨gb175, 1, none⟩ = some (.int .i64 a0_1) ∧ w'.cell? ⟨gb175, 2, none⟩ = some (.slice (some ad176) l0_2.length c0_2) ∧ w'.cell? (ad182.add (x6_1).toNat) = some (.int .i64 (rd l1 x6_1)) ∧ w'.cell? (ad176.add (x6_1).toNat) = some (.int .i64 (rd l0_2 x6_1)) ∧ w'.cell? (ad176.add ((ji27)).toNat) = some (.int .i64 (rd l0_2 (ji27))) ∧ w'.cell? (ad182.add (x6_1).toNat) = some (.int .i64 (rd l1 x6_1)) ∧ w'.cell? (ad182.add ((ji27)).toNat) = some (.int .i64 (rd l1 (ji27)))) (ds := []) #[false, false, false, false, false, false, false, false, false, false, false, false, false, false, false, false, false, false, false, false, false, false, false, false, false, false, false, false, false, false, false, false, false, false, false, false, false, false, false, false, false] (by kernel_rfl) rfl rfl ⟨(blk_cell BK175.out 0).trans rfl, (blk_cell BK175.out 1).trans rfl, (blk_cell BK175.out 2).trans rfl, ((HB.out.cell (World.block_lt_of_cell? w _ hw182_0)).trans hw182_0), ((HB.out.cell (World.block_lt_of_cell? w _ hw183_0)).trans hw183_0), ((HB.out.cell (World.block_lt_of_cell? w _ hw184_0)).trans hw184_0), ((HB.out.cell (World.block_lt_of_cell? w _ hw185_0)).trans hw185_0), ((HB.out.cell (World.block_lt_of_cell? w _ hw186_0)).trans hw186_0)⟩ (fun hHeld => ?_); refine with_tabW spec_l09Fleet.tab13 spec_l09Fleet.bits13 (fun HT_ HW_ => ?_)
                     generalize wr.drew = w34 at HO_8 BK175 HB hx182_0 hx183_0 hx184_0 hx185_0 hx186_0 hHeld ⊢
                     refine pure_ (i := 0) (N := some 47) (v := ?_) (a' := ?_) (flg_ 41 1) rfl rfl (any_of HT_.out (by kernel_rfl)) (fun _ _ _ h => h) (Or.inl ⟨by rfl, ?_⟩) ?_ ?_
                     rotate_left; (· (intro w'; go_simp; with_reducible rfl)); rotate_left; (· (simp only [Act.put, sz_, s0_, s1_, i64_w, i32_w]; rfl))
                     refine pure_ (i := 1) (N := some 48) (v := ?_) (a' := ?_) (flg_ 41 3) rfl rfl (any_of HT_.out (by kernel_rfl)) (fun _ _ _ h => h) (Or.inl ⟨by rfl, ?_⟩) ?_ ?_
                     rotate_left; (· (intro w'; go_simp; with_reducible rfl)); rotate_left; (· (simp only [Act.put, sz_, s0_, s1_, i64_w, i32_w]; rfl))
                     refine pure_ (i := 2) (N := some 49) (v := ?_) (a' := ?_) (flg_ 41 7) rfl rfl (any_of HT_.out (by kernel_rfl)) (fun _ _ _ h => h) (Or.inl ⟨by rfl, ?_⟩) ?_ ?_
                     rotate_left; (· (intro w'; go_simp; with_reducible rfl)); rotate_left; (· (simp only [Act.put, sz_, s0_, s1_, i64_w, i32_w]; rfl))
                     refine pure_ (i := 3) (N := some 50) (v := ?_) (a' := ?_) (flg_ 41 15) rfl rfl (any_of HT_.out (by kernel_rfl)) (fun _ _ _ h => h) (Or.inl ⟨by rfl, ?_⟩) ?_ ?_
                     rotate_left; (· (intro w'; go_simp; with_reducible rfl)); rotate_left; (· (simp only [Act.put, sz_, s0_, s1_, i64_w, i32_w]; rfl))
                     refine pure_ (i := 4) (N := some 51) (v := ?_) (a' := ?_) (flg_ 41 31) rfl rfl (any_of HT_.out (by kernel_rfl)) (fun _ _ _ h => h) (Or.inl ⟨by rfl, ?_⟩) ?_ ?_
                     rotate_left; (· (intro w'; go_simp; with_reducible rfl)); rotate_left; (· (simp only [Act.put, sz_, s0_, s1_, i64_w, i32_w]; rfl))
                     refine pure_ (i := 5) (N := some 52) (v := ?_) (a' := ?_) (flg_ 41 63) rfl rfl (any_of HT_.out (by kernel_rfl)) (fun _ _ _ h => h) (Or.inl ⟨by rfl, ?_⟩) ?_ ?_
                     rotate_left; (· (intro w'; go_simp; with_reducible rfl)); rotate_left; (· (simp only [Act.put, sz_, s0_, s1_, i64_w, i32_w]; rfl))
                     refine pure_ (i := 7) (N := some 54) (v := ?_) (a' := ?_) (flg_ 41 191) rfl rfl (any_of HT_.out (by kernel_rfl)) (fun _ _ _ h => h) (Or.inl ⟨by rfl, ?_⟩) ?_ ?_
                     rotate_left; (· (intro w'; go_simp; with_reducible rfl)); rotate_left; (· (simp only [Act.put, sz_, s0_, s1_, i64_w, i32_w]; rfl))
                     refine take_ (i := 6) (N := some 53) (v := ?_) (a' := ?_) (flg_ 41 255) rfl rfl (take_ofW HT_.out HW_.out (by kernel_rfl)) (fun _ _ _ h => h) (Or.inl ⟨by rfl, ?_⟩) hHeld ?_ ?_
                     rotate_left; (· (rintro w' ⟨s0, s1, s2, s3, s4, s5, s6, s7⟩; go_simp; with_reducible rfl)); rotate_left; (· (simp only [Act.put, sz_, s0_, s1_, i64_w, i32_w]; rfl))
                     refine pure_ (i := 8) (N := some 55) (v := ?_) (a' := ?_) (flg_ 41 511) rfl rfl (any_of HT_.out (by kernel_rfl)) (fun _ _ _ h => h) (Or.inl ⟨by rfl, ?_⟩) ?_ ?_
                     rotate_left; (· (intro w'; go_simp; with_reducible rfl)); rotate_left; (· (simp only [Act.put, sz_, s0_, s1_, i64_w, i32_w]; rfl))
                     refine pure_ (i := 9) (N := some 56) (v := ?_) (a' := ?_) (flg_ 41 1023) rfl rfl (any_of HT_.out (by kernel_rfl)) (fun _ _ _ h => h) (Or.inl ⟨by rfl, ?_⟩) ?_ ?_
                     rotate_left; (· (intro w'; go_simp; with_reducible rfl)); rotate_left; (· (simp only [Act.put, sz_, s0_, s1_, i64_w, i32_w]; rfl))
                     refine pure_ (i := 10) (N := some 57) (v := ?_) (a' := ?_) (flg_ 41 2047) rfl rfl (any_of HT_.out (by kernel_rfl)) (fun _ _ _ h => h) (Or.inl ⟨by rfl, ?_⟩) ?_ ?_
                     rotate_left; (· (intro w'; go_simp; with_reducible rfl)); rotate_left; (· (simp only [Act.put, sz_, s0_, s1_, i64_w, i32_w]; rfl))
                     refine pure_ (i := 11) (N := some 58) (v := ?_) (a' := ?_) (flg_ 41 4095) rfl rfl (any_of HT_.out (by kernel_rfl)) (fun _ _ _ h => h) (Or.inl ⟨by rfl, ?_⟩) ?_ ?_
                     rotate_left; (· (intro w'; go_simp; with_reducible rfl)); rotate_left; (· (simp only [Act.put, sz_, s0_, s1_, i64_w, i32_w]; rfl))
                     refine pure_ (i := 12) (N := some 59) (v := ?_) (a' := ?_) (flg_ 41 8191) rfl rfl (any_of HT_.out (by kernel_rfl)) (fun _ _ _ h => h) (Or.inl ⟨by rfl, ?_⟩) ?_ ?_
                     rotate_left; (· (intro w'; go_simp; with_reducible rfl)); rotate_left; (· (simp only [Act.put, sz_, s0_, s1_, i64_w, i32_w]; rfl))
                     refine pure_ (i := 13) (N := some 60) (v := ?_) (a' := ?_) (flg_ 41 16383) rfl rfl (any_of HT_.out (by kernel_rfl)) (fun _ _ _ h => h) (Or.inl ⟨by rfl, ?_⟩) ?_ ?_
                     rotate_left; (· (intro w'; go_simp; with_reducible rfl)); rotate_left; (· (simp only [Act.put, sz_, s0_, s1_, i64_w, i32_w]; rfl))
                     refine pure_ (i := 14) (N := some 61) (v := ?_) (a' := ?_) (flg_ 41 32767) rfl rfl (any_of HT_.out (by kernel_rfl)) (fun _ _ _ h => h) (Or.inl ⟨by rfl, ?_⟩) ?_ ?_
                     rotate_left; (· (intro w'; go_simp; with_reducible rfl)); rotate_left; (· (simp only [Act.put, sz_, s0_, s1_, i64_w, i32_w]; rfl))
                     refine pure_ (i := 15) (N := some 62) (v := ?_) (a' := ?_) (flg_ 41 65535) rfl rfl (any_of HT_.out (by kernel_rfl)) (fun _ _ _ h => h) (Or.inl ⟨by rfl, ?_⟩) ?_ ?_
                     rotate_left; (· (intro w'; go_simp; with_reducible rfl)); rotate_left; (· (simp only [Act.put, sz_, s0_, s1_, i64_w, i32_w]; rfl))
                     refine pure_ (i := 17) (N := some 64) (v := ?_) (a' := ?_) (flg_ 41 196607) rfl rfl (any_of HT_.out (by kernel_rfl)) (fun _ _ _ h => h) (Or.inl ⟨by rfl, ?_⟩) ?_ ?_
                     rotate_left; (· (intro w'; go_simp; with_reducible rfl)); rotate_left; (· (simp only [Act.put, sz_, s0_, s1_, i64_w, i32_w]; rfl))
                     refine pure_ (i := 20) (N := some 67) (v := ?_) (a' := ?_) (flg_ 41 1245183) rfl rfl (any_of HT_.out (by kernel_rfl)) (fun _ _ _ h => h) (Or.inl ⟨by rfl, ?_⟩) ?_ ?_
                     rotate_left; (· (intro w'; go_simp; with_reducible rfl)); rotate_left; (· (simp only [Act.put, sz_, s0_, s1_, i64_w, i32_w]; rfl))
                     refine pure_ (i := 22) (N := some 69) (v := ?_) (a' := ?_) (flg_ 41 5439487) rfl rfl (any_of HT_.out (by kernel_rfl)) (fun _ _ _ h => h) (Or.inl ⟨by rfl, ?_⟩) ?_ ?_
                     rotate_left; (· (intro w'; go_simp; with_reducible rfl)); rotate_left; (· (simp only [Act.put, sz_, s0_, s1_, i64_w, i32_w]; rfl))
                     refine pure_ (i := 23) (N := some 70) (v := ?_) (a' := ?_) (flg_ 41 13828095) rfl rfl (any_of HT_.out (by kernel_rfl)) (fun _ _ _ h => h) (Or.inl ⟨by rfl, ?_⟩) ?_ ?_
                     rotate_left; (· (intro w'; go_simp; with_reducible rfl)); rotate_left; (· (simp only [Act.put, sz_, s0_, s1_, i64_w, i32_w]; rfl))
                     refine take_ (i := 16) (N := some 63) (v := ?_) (a' := ?_) (flg_ 41 13893631) rfl rfl (take_ofW HT_.out HW_.out (by kernel_rfl)) (fun _ _ _ h => h) (Or.inl ⟨by rfl, ?_⟩) hHeld ?_ ?_
                     rotate_left; (· (rintro w' ⟨s0, s1, s2, s3, s4, s5, s6, s7⟩; go_simp; with_reducible rfl)); rotate_left; (· (simp only [Act.put, sz_, s0_, s1_, i64_w, i32_w]; rfl))
                     refine pure_ (i := 18) (N := some 65) (v := ?_) (a' := ?_) (flg_ 41 14155775) rfl rfl (any_of HT_.out (by kernel_rfl)) (fun _ _ _ h => h) (Or.inl ⟨by rfl, ?_⟩) ?_ ?_
                     rotate_left; (· (intro w'; go_simp; with_reducible rfl)); rotate_left; (· (simp only [Act.put, sz_, s0_, s1_, i64_w, i32_w]; rfl))
                     refine take_ (i := 19) (N := some 66) (v := ?_) (a' := ?_) (flg_ 41 14680063) rfl rfl (take_ofW HT_.out HW_.out (by kernel_rfl)) (fun _ _ _ h => h) (Or.inl ⟨by rfl, ?_⟩) hHeld ?_ ?_
                     rotate_left; (· (rintro w' ⟨s0, s1, s2, s3, s4, s5, s6, s7⟩; go_simp; with_reducible rfl)); rotate_left; (· (simp only [Act.put, sz_, s0_, s1_, i64_w, i32_w]; rfl))
                     refine take_ (i := 21) (N := some 68) (v := ?_) (a' := ?_) (flg_ 41 16777215) rfl rfl (take_ofW HT_.out HW_.out (by kernel_rfl)) (fun _ _ _ h => h) (Or.inl ⟨by rfl, ?_⟩) hHeld ?_ ?_
                     rotate_left; (· (rintro w' ⟨s0, s1, s2, s3, s4, s5, s6, s7⟩; go_simp; with_reducible rfl)); rotate_left; (· (simp only [Act.put, sz_, s0_, s1_, i64_w, i32_w]; rfl))
                     refine pure_ (i := 24) (N := some 71) (v := ?_) (a' := ?_) (flg_ 41 33554431) rfl rfl (any_of HT_.out (by kernel_rfl)) (fun _ _ _ h => h) (Or.inl ⟨by rfl, ?_⟩) ?_ ?_
                     rotate_left; (· (intro w'; go_simp; with_reducible rfl)); rotate_left; (· (simp only [Act.put, sz_, s0_, s1_, i64_w, i32_w]; rfl))
                     refine take_ (i := 25) (N := some 72) (v := ?_) (a' := ?_) (flg_ 41 67108863) rfl rfl (take_ofW HT_.out HW_.out (by kernel_rfl)) (fun _ _ _ h => h) (Or.inl ⟨by rfl, ?_⟩) hHeld ?_ ?_
                     rotate_left; (· (rintro w' ⟨s0, s1, s2, s3, s4, s5, s6, s7⟩; go_simp; with_reducible rfl)); rotate_left; (· (simp only [Act.put, sz_, s0_, s1_, i64_w, i32_w]; rfl))
                     refine pure_ (i := 26) (N := some 73) (v := ?_) (a' := ?_) (flg_ 41 134217727) rfl rfl (any_of HT_.out (by kernel_rfl)) (fun _ _ _ h => h) (Or.inl ⟨by rfl, ?_⟩) ?_ ?_
                     rotate_left; (· (intro w'; go_simp; with_reducible rfl)); rotate_left; (· (simp only [Act.put, sz_, s0_, s1_, i64_w, i32_w]; rfl))
                     refine pure_ (i := 27) (N := some 74) (v := ?_) (a' := ?_) (flg_ 41 268435455) rfl rfl (any_of HT_.out (by kernel_rfl)) (fun _ _ _ h => h) (Or.inl ⟨by rfl, ?_⟩) ?_ ?_
                     rotate_left; (· (intro w'; go_simp; with_reducible rfl)); rotate_left; (· (simp only [Act.put, sz_, s0_, s1_, i64_w, i32_w]; rfl))
                     refine pure_ (i := 28) (N := some 75) (v := ?_) (a' := ?_) (flg_ 41 536870911) rfl rfl (any_of HT_.out (by kernel_rfl)) (fun _ _ _ h => h) (Or.inl ⟨by rfl, ?_⟩) ?_ ?_
                     rotate_left; (· (intro w'; go_simp; with_reducible rfl)); rotate_left; (· (simp only [Act.put, sz_, s0_, s1_, i64_w, i32_w]; rfl))
                     refine pure_ (i := 29) (N := some 76) (v := ?_) (a' := ?_) (flg_ 41 1073741823) rfl rfl (any_of HT_.out (by kernel_rfl)) (fun _ _ _ h => h) (Or.inl ⟨by rfl, ?_⟩) ?_ ?_
                     rotate_left; (· (intro w'; go_simp; with_reducible rfl)); rotate_left; (· (simp only [Act.put, sz_, s0_, s1_, i64_w, i32_w]; rfl))
                     refine pure_ (i := 30) (N := some 77) (v := ?_) (a' := ?_) (flg_ 41 2147483647) rfl rfl (any_of HT_.out (by kernel_rfl)) (fun _ _ _ h => h) (Or.inl ⟨by rfl, ?_⟩) ?_ ?_
                     rotate_left; (· (intro w'; go_simp; with_reducible rfl)); rotate_left; (· (simp only [Act.put, sz_, s0_, s1_, i64_w, i32_w]; rfl))
                     refine pure_ (i := 31) (N := some 78) (v := ?_) (a' := ?_) (flg_ 41 4294967295) rfl rfl (any_of HT_.out (by kernel_rfl)) (fun _ _ _ h => h) (Or.inl ⟨by rfl, ?_⟩) ?_ ?_
                     rotate_left; (· (intro w'; go_simp; with_reducible rfl)); rotate_left; (· (simp only [Act.put, sz_, s0_, s1_, i64_w, i32_w]; rfl))
                     refine pure_ (i := 33) (N := some 80) (v := ?_) (a' := ?_) (flg_ 41 12884901887) rfl rfl (any_of HT_.out (by kernel_rfl)) (fun _ _ _ h => h) (Or.inl ⟨by rfl, ?_⟩) ?_ ?_
                     rotate_left; (· (intro w'; go_simp; with_reducible rfl)); rotate_left; (· (simp only [Act.put, sz_, s0_, s1_, i64_w, i32_w]; rfl))
                     refine pure_ (i := 34) (N := some 81) (v := ?_) (a' := ?_) (flg_ 41 30064771071) rfl rfl (any_of HT_.out (by kernel_rfl)) (fun _ _ _ h => h) (Or.inl ⟨by rfl, ?_⟩) ?_ ?_
                     rotate_left; (· (intro w'; go_simp; with_reducible rfl)); rotate_left; (· (simp only [Act.put, sz_, s0_, s1_, i64_w, i32_w]; rfl))
                     refine pure_ (i := 35) (N := some 82) (v := ?_) (a' := ?_) (flg_ 41 64424509439) rfl rfl (any_of HT_.out (by kernel_rfl)) (fun _ _ _ h => h) (Or.inl ⟨by rfl, ?_⟩) ?_ ?_
                     rotate_left; (· (intro w'; go_simp; with_reducible rfl)); rotate_left; (· (simp only [Act.put, sz_, s0_, s1_, i64_w, i32_w]; rfl))
                     refine pure_ (i := 36) (N := some 83) (v := ?_) (a' := ?_) (flg_ 41 133143986175) rfl rfl (any_of HT_.out (by kernel_rfl)) (fun _ _ _ h => h) (Or.inl ⟨by rfl, ?_⟩) ?_ ?_
                     rotate_left; (· (intro w'; go_simp; with_reducible rfl)); rotate_left; (· (simp only [Act.put, sz_, s0_, s1_, i64_w, i32_w]; rfl))
                     refine take_ (i := 32) (N := some 79) (v := ?_) (a' := ?_) (flg_ 41 137438953471) rfl rfl (take_ofW HT_.out HW_.out (by kernel_rfl)) (fun _ _ _ h => h) (Or.inl ⟨by rfl, ?_⟩) hHeld ?_ ?_
                     rotate_left; (· (rintro w' ⟨s0, s1, s2, s3, s4, s5, s6, s7⟩; go_simp; with_reducible rfl)); rotate_left; (· (simp only [Act.put, sz_, s0_, s1_, i64_w, i32_w]; rfl))
                     refine take_ (i := 37) (N := some 84) (v := ?_) (a' := ?_) (flg_ 41 274877906943) rfl rfl (take_ofW HT_.out HW_.out (by kernel_rfl)) (fun _ _ _ h => h) (Or.inl ⟨by rfl, ?_⟩) hHeld ?_ ?_
                     rotate_left; (· (rintro w' ⟨s0, s1, s2, s3, s4, s5, s6, s7⟩; go_simp; with_reducible rfl)); rotate_left; (· (simp only [Act.put, sz_, s0_, s1_, i64_w, i32_w]; rfl))
                     refine pure_ (i := 38) (N := some 85) (v := ?_) (a' := ?_) (flg_ 41 549755813887) rfl rfl (any_of HT_.out (by kernel_rfl)) (fun _ _ _ h => h) (Or.inl ⟨by rfl, ?_⟩) ?_ ?_
                     rotate_left; (· (intro w'; go_simp; with_reducible rfl)); rotate_left; (· (simp only [Act.put, sz_, s0_, s1_, i64_w, i32_w]; rfl))
                     refine pure_ (i := 39) (N := some 86) (v := ?_) (a' := ?_) (flg_ 41 1099511627775) rfl rfl (any_of HT_.out (by kernel_rfl)) (fun _ _ _ h => h) (Or.inl ⟨by rfl, ?_⟩) ?_ ?_
                     rotate_left; (· (intro w'; go_simp; with_reducible rfl)); rotate_left; (· (simp only [Act.put, sz_, s0_, s1_, i64_w, i32_w]; rfl))
                     refine pure_ (i := 40) (N := some 87) (v := ?_) (a' := ?_) (flg_ 41 2199023255551) rfl rfl (any_of HT_.out (by kernel_rfl)) (fun _ _ _ h => h) (Or.inl ⟨by rfl, ?_⟩) ?_ ?_
                     rotate_left; (· (intro w'; go_simp; with_reducible rfl)); rotate_left; (· (simp only [Act.put, sz_, s0_, s1_, i64_w, i32_w]; rfl))
                     refine done_ (done_of HT_.out (by kernel_rfl)) ?_
                     try go_wp2
                     go_ret
                     exact ⟨by first | rfl | (simp [errW_none, errW_some] <;> rfl) | (simp only [← hji27]; first | rfl | (simp [errW_none, errW_some] <;> rfl)) | (simp [*, errW_none, errW_some] <;> rfl), by repeat (first | (with_reducible first | exact HB.out | apply below_alloc | apply pw_below_drewN | apply below_drew1 | refine below_set ?_ GE175.out) | exact HB.out)⟩
                    ·rw [if_neg c32] at H
                     have c32b0 : decide ((rd l1 x6_1) < (rd l1 (ji27))) = false := decide_eq_false c32
                     clear c32
                     have H' := Aside0.mk H
                     clear H
                     obtain ⟨Ao35, co35, eo35⟩ := Kd.R_slice HO_8.out
                     subst eo35
                     try go_wp2
                     have n0_ := Aside0.mk (Kd.R_drew HO_8.out)
                     have n1_ := Aside0.mk (blk_drew BK175.out)
                     have n2_ := Aside0.mk (below_drew1 HB.out)
                     clear HO_8
                     clear BK175
                     clear HB
                     have HO_8 := n0_
                     have BK175 := n1_
                     have HB := n2_
                     clear n0_ n1_ n2_
                     have p182 : 0 ≤ (x6_1 : Int) := oda
                     have q182 : x6_1 < (l1.length : Int) := oda
                     obtain ⟨ad182, e182, hx182_0⟩ := Kd.at_int HR1.out x6_1 p182 q182
                     have hw182_0 := hx182_0
                     cases e182
                     replace hx182_0 := (HB.out.cell (World.block_lt_of_cell? w _ hx182_0)).trans hx182_0
                     replace p182 := eq_true p182
                     replace q182 := eq_true q182
                     have p183 : 0 ≤ (x6_1 : Int) := oda
                     have q183 : x6_1 < (l0_2.length : Int) := oda
                     obtain ⟨ad183, e183, hx183_0⟩ := Kd.at_int HR0_2.out x6_1 p183 q183
                     have hw183_0 := hx183_0
                     obtain rfl : ad176 = ad183 := (by injection e183)
                     replace hx183_0 := (HB.out.cell (World.block_lt_of_cell? w _ hx183_0)).trans hx183_0
                     replace p183 := eq_true p183
                     replace q183 := eq_true q183
                     have p184 : 0 ≤ ((ji27) : Int) := oda
                     have q184 : (ji27) < (l0_2.length : Int) := oda
                     obtain ⟨ad184, e184, hx184_0⟩ := Kd.at_int HR0_2.out (ji27) p184 q184
                     have hw184_0 := hx184_0
                     obtain rfl : ad176 = ad184 := (by injection e184)
                     replace hx184_0 := (HB.out.cell (World.block_lt_of_cell? w _ hx184_0)).trans hx184_0
                     replace p184 := eq_true p184
                     replace q184 := eq_true q184
                     have p185 : 0 ≤ (x6_1 : Int) := oda
                     have q185 : x6_1 < (l1.length : Int) := oda
                     obtain ⟨ad185, e185, hx185_0⟩ := Kd.at_int HR1.out x6_1 p185 q185
                     have hw185_0 := hx185_0
                     obtain rfl : ad182 = ad185 := (by injection e185)
                     replace hx185_0 := (HB.out.cell (World.block_lt_of_cell? w _ hx185_0)).trans hx185_0
                     replace p185 := eq_true p185
                     replace q185 := eq_true q185
                     have p186 : 0 ≤ ((ji27) : Int) := oda
                     have q186 : (ji27) < (l1.length : Int) := oda
                     obtain ⟨ad186, e186, hx186_0⟩ := Kd.at_int HR1.out (ji27) p186 q186
                     have hw186_0 := hx186_0
                     obtain rfl : ad182 = ad186 := (by injection e186)
                     replace hx186_0 := (HB.out.cell (World.block_lt_of_cell? w _ hx186_0)).trans hx186_0
                     replace p186 := eq_true p186
                     replace q186 := eq_true q186
                     refine start_ (n := 41) (S := fun w' => w'.cell? ⟨gb175, 0, none⟩ = some (.int .i64 a0_0) ∧ w'.cell? ⟨gb175, 1, none⟩ = some (.int .i64 a0_1) ∧ w'.cell? ⟨gb175, 2, none⟩ = some (.slice (some ad176) l0_2.length c0_2) ∧ w'.cell? (ad182.add (x6_1).toNat) = some (.int .i64 (rd l1 x6_1)) ∧ w'.cell? (ad176.add (x6_1).toNat) = some (.int .i64 (rd l0_2 x6_1)) ∧ w'.cell? (ad176.add ((ji27)).toNat) = some (.int .i64 (rd l0_2 (ji27))) ∧ w'.cell? (ad182.add (x6_1).toNat) = some (.int .i64 (rd l1 x6_1)) ∧ w'.cell? (ad182.add ((ji27)).toNat) = some (.int .i64 (rd l1 (ji27)))) (ds := []) #[false, false, false, false, false, false, false, false, false, false, false, false, false, false, false, false, false, false, false, false, false, false, false, false, false, false, false, false, false, false, false, false, false, false, false, false, false, false, false, false, false] (by kernel_rfl) rfl rfl ⟨(blk_cell BK175.out 0).trans rfl, (blk_cell BK175.out 1).trans rfl, (blk_cell BK175.out 2).trans rfl, ((HB.out.cell (World.block_lt_of_cell? w _ hw182_0)).trans hw182_0), ((HB.out.cell (World.block_lt_of_cell? w _ hw183_0)).trans hw183_0), ((HB.out.cell (World.block_lt_of_cell? w _ hw184_0)).trans hw184_0), ((HB.out.cell (World.block_lt_of_cell? w _ hw185_0)).trans hw185_0), ((HB.out.cell (World.block_lt_of_cell? w _ hw186_0)).trans hw186_0)⟩ (fun hHeld => ?_); refine with_tabW spec_l09Fleet.tab13 spec_l09Fleet.bits13 (fun HT_ HW_ => ?_)
                     generalize wr.drew = w36 at HO_8 BK175 HB hx182_0 hx183_0 hx184_0 hx185_0 hx186_0 hHeld ⊢
                     refine pure_ (i := 0) (N := some 47) (v := ?_) (a' := ?_) (flg_ 41 1) rfl rfl (any_of HT_.out (by kernel_rfl)) (fun _ _ _ h => h) (Or.inl ⟨by rfl, ?_⟩) ?_ ?_
                     rotate_left; (· (intro w'; go_simp; with_reducible rfl)); rotate_left; (· (simp only [Act.put, sz_, s0_, s1_, i64_w, i32_w]; rfl))
                     refine pure_ (i := 1) (N := some 48) (v := ?_) (a' := ?_) (flg_ 41 3) rfl rfl (any_of HT_.out (by kernel_rfl)) (fun _ _ _ h => h) (Or.inl ⟨by rfl, ?_⟩) ?_ ?_
                     rotate_left; (· (intro w'; go_simp; with_reducible rfl)); rotate_left; (· (simp only [Act.put, sz_, s0_, s1_, i64_w, i32_w]; rfl))
                     refine pure_ (i := 2) (N := some 49) (v := ?_) (a' := ?_) (flg_ 41 7) rfl rfl (any_of HT_.out (by kernel_rfl)) (fun _ _ _ h => h) (Or.inl ⟨by rfl, ?_⟩) ?_ ?_
                     rotate_left; (· (intro w'; go_simp; with_reducible rfl)); rotate_left; (· (simp only [Act.put, sz_, s0_, s1_, i64_w, i32_w]; rfl))
                     refine pure_ (i := 3) (N := some 50) (v := ?_) (a' := ?_) (flg_ 41 15) rfl rfl (any_of HT_.out (by kernel_rfl)) (fun _ _ _ h => h) (Or.inl ⟨by rfl, ?_⟩) ?_ ?_
                     rotate_left; (· (intro w'; go_simp; with_reducible rfl)); rotate_left; (· (simp only [Act.put, sz_, s0_, s1_, i64_w, i32_w]; rfl))
                     refine pure_ (i := 4) (N := some 51) (v := ?_) (a' := ?_) (flg_ 41 31) rfl rfl (any_of HT_.out (by kernel_rfl)) (fun _ _ _ h => h) (Or.inl ⟨by rfl, ?_⟩) ?_ ?_
                     rotate_left; (· (intro w'; go_simp; with_reducible rfl)); rotate_left; (· (simp only [Act.put, sz_, s0_, s1_, i64_w, i32_w]; rfl))
                     refine pure_ (i := 5) (N := some 52) (v := ?_) (a' := ?_) (flg_ 41 63) rfl rfl (any_of HT_.out (by kernel_rfl)) (fun _ _ _ h => h) (Or.inl ⟨by rfl, ?_⟩) ?_ ?_
                     rotate_left; (· (intro w'; go_simp; with_reducible rfl)); rotate_left; (· (simp only [Act.put, sz_, s0_, s1_, i64_w, i32_w]; rfl))
                     refine pure_ (i := 7) (N := some 54) (v := ?_) (a' := ?_) (flg_ 41 191) rfl rfl (any_of HT_.out (by kernel_rfl)) (fun _ _ _ h => h) (Or.inl ⟨by rfl, ?_⟩) ?_ ?_
                     rotate_left; (· (intro w'; go_simp; with_reducible rfl)); rotate_left; (· (simp only [Act.put, sz_, s0_, s1_, i64_w, i32_w]; rfl))
                     refine take_ (i := 6) (N := some 53) (v := ?_) (a' := ?_) (flg_ 41 255) rfl rfl (take_ofW HT_.out HW_.out (by kernel_rfl)) (fun _ _ _ h => h) (Or.inl ⟨by rfl, ?_⟩) hHeld ?_ ?_
                     rotate_left; (· (rintro w' ⟨s0, s1, s2, s3, s4, s5, s6, s7⟩; go_simp; with_reducible rfl)); rotate_left; (· (simp only [Act.put, sz_, s0_, s1_, i64_w, i32_w]; rfl))
                     refine pure_ (i := 8) (N := some 55) (v := ?_) (a' := ?_) (flg_ 41 511) rfl rfl (any_of HT_.out (by kernel_rfl)) (fun _ _ _ h => h) (Or.inl ⟨by rfl, ?_⟩) ?_ ?_
                     rotate_left; (· (intro w'; go_simp; with_reducible rfl)); rotate_left; (· (simp only [Act.put, sz_, s0_, s1_, i64_w, i32_w]; rfl))
                     refine pure_ (i := 9) (N := some 56) (v := ?_) (a' := ?_) (flg_ 41 1023) rfl rfl (any_of HT_.out (by kernel_rfl)) (fun _ _ _ h => h) (Or.inl ⟨by rfl, ?_⟩) ?_ ?_
                     rotate_left; (· (intro w'; go_simp; with_reducible rfl)); rotate_left; (· (simp only [Act.put, sz_, s0_, s1_, i64_w, i32_w]; rfl))
                     refine pure_ (i := 10) (N := some 57) (v := ?_) (a' := ?_) (flg_ 41 2047) rfl rfl (any_of HT_.out (by kernel_rfl)) (fun _ _ _ h => h) (Or.inl ⟨by rfl, ?_⟩) ?_ ?_
                     rotate_left; (· (intro w'; go_simp; with_reducible rfl)); rotate_left; (· (simp only [Act.put, sz_, s0_, s1_, i64_w, i32_w]; rfl))
                     refine pure_ (i := 11) (N := some 58) (v := ?_) (a' := ?_) (flg_ 41 4095) rfl rfl (any_of HT_.out (by kernel_rfl)) (fun _ _ _ h => h) (Or.inl ⟨by rfl, ?_⟩) ?_ ?_
                     rotate_left; (· (intro w'; go_simp; with_reducible rfl)); rotate_left; (· (simp only [Act.put, sz_, s0_, s1_, i64_w, i32_w]; rfl))
                     refine pure_ (i := 12) (N := some 59) (v := ?_) (a' := ?_) (flg_ 41 8191) rfl rfl (any_of HT_.out (by kernel_rfl)) (fun _ _ _ h => h) (Or.inl ⟨by rfl, ?_⟩) ?_ ?_
                     rotate_left; (· (intro w'; go_simp; with_reducible rfl)); rotate_left; (· (simp only [Act.put, sz_, s0_, s1_, i64_w, i32_w]; rfl))
                     refine pure_ (i := 13) (N := some 60) (v := ?_) (a' := ?_) (flg_ 41 16383) rfl rfl (any_of HT_.out (by kernel_rfl)) (fun _ _ _ h => h) (Or.inl ⟨by rfl, ?_⟩) ?_ ?_
                     rotate_left; (· (intro w'; go_simp; with_reducible rfl)); rotate_left; (· (simp only [Act.put, sz_, s0_, s1_, i64_w, i32_w]; rfl))
                     refine pure_ (i := 14) (N := some 61) (v := ?_) (a' := ?_) (flg_ 41 32767) rfl rfl (any_of HT_.out (by kernel_rfl)) (fun _ _ _ h => h) (Or.inl ⟨by rfl, ?_⟩) ?_ ?_
                     rotate_left; (· (intro w'; go_simp; with_reducible rfl)); rotate_left; (· (simp only [Act.put, sz_, s0_, s1_, i64_w, i32_w]; rfl))
                     refine pure_ (i := 15) (N := some 62) (v := ?_) (a' := ?_) (flg_ 41 65535) rfl rfl (any_of HT_.out (by kernel_rfl)) (fun _ _ _ h => h) (Or.inl ⟨by rfl, ?_⟩) ?_ ?_
                     rotate_left; (· (intro w'; go_simp; with_reducible rfl)); rotate_left; (· (simp only [Act.put, sz_, s0_, s1_, i64_w, i32_w]; rfl))
                     refine pure_ (i := 17) (N := some 64) (v := ?_) (a' := ?_) (flg_ 41 196607) rfl rfl (any_of HT_.out (by kernel_rfl)) (fun _ _ _ h => h) (Or.inl ⟨by rfl, ?_⟩) ?_ ?_
                     rotate_left; (· (intro w'; go_simp; with_reducible rfl)); rotate_left; (· (simp only [Act.put, sz_, s0_, s1_, i64_w, i32_w]; rfl))
                     refine pure_ (i := 20) (N := some 67) (v := ?_) (a' := ?_) (flg_ 41 1245183) rfl rfl (any_of HT_.out (by kernel_rfl)) (fun _ _ _ h => h) (Or.inl ⟨by rfl, ?_⟩) ?_ ?_
                     rotate_left; (· (intro w'; go_simp; with_reducible rfl)); rotate_left; (· (simp only [Act.put, sz_, s0_, s1_, i64_w, i32_w]; rfl))
                     refine pure_ (i := 22) (N := some 69) (v := ?_) (a' := ?_) (flg_ 41 5439487) rfl rfl (any_of HT_.out (by kernel_rfl)) (fun _ _ _ h => h) (Or.inl ⟨by rfl, ?_⟩) ?_ ?_
                     rotate_left; (· (intro w'; go_simp; with_reducible rfl)); rotate_left; (· (simp only [Act.put, sz_, s0_, s1_, i64_w, i32_w]; rfl))
                     refine pure_ (i := 23) (N := some 70) (v := ?_) (a' := ?_) (flg_ 41 13828095) rfl rfl (any_of HT_.out (by kernel_rfl)) (fun _ _ _ h => h) (Or.inl ⟨by rfl, ?_⟩) ?_ ?_
                     rotate_left; (· (intro w'; go_simp; with_reducible rfl)); rotate_left; (· (simp only [Act.put, sz_, s0_, s1_, i64_w, i32_w]; rfl))
                     refine take_ (i := 16) (N := some 63) (v := ?_) (a' := ?_) (flg_ 41 13893631) rfl rfl (take_ofW HT_.out HW_.out (by kernel_rfl)) (fun _ _ _ h => h) (Or.inl ⟨by rfl, ?_⟩) hHeld ?_ ?_
                     rotate_left; (· (rintro w' ⟨s0, s1, s2, s3, s4, s5, s6, s7⟩; go_simp; with_reducible rfl)); rotate_left; (· (simp only [Act.put, sz_, s0_, s1_, i64_w, i32_w]; rfl))
                     refine pure_ (i := 18) (N := some 65) (v := ?_) (a' := ?_) (flg_ 41 14155775) rfl rfl (any_of HT_.out (by kernel_rfl)) (fun _ _ _ h => h) (Or.inl ⟨by rfl, ?_⟩) ?_ ?_
                     rotate_left; (· (intro w'; go_simp; with_reducible rfl)); rotate_left; (· (simp only [Act.put, sz_, s0_, s1_, i64_w, i32_w]; rfl))
                     refine take_ (i := 19) (N := some 66) (v := ?_) (a' := ?_) (flg_ 41 14680063) rfl rfl (take_ofW HT_.out HW_.out (by kernel_rfl)) (fun _ _ _ h => h) (Or.inl ⟨by rfl, ?_⟩) hHeld ?_ ?_
                     rotate_left; (· (rintro w' ⟨s0, s1, s2, s3, s4, s5, s6, s7⟩; go_simp; with_reducible rfl)); rotate_left; (· (simp only [Act.put, sz_, s0_, s1_, i64_w, i32_w]; rfl))
                     refine take_ (i := 21) (N := some 68) (v := ?_) (a' := ?_) (flg_ 41 16777215) rfl rfl (take_ofW HT_.out HW_.out (by kernel_rfl)) (fun _ _ _ h => h) (Or.inl ⟨by rfl, ?_⟩) hHeld ?_ ?_
                     rotate_left; (· (rintro w' ⟨s0, s1, s2, s3, s4, s5, s6, s7⟩; go_simp; with_reducible rfl)); rotate_left; (· (simp only [Act.put, sz_, s0_, s1_, i64_w, i32_w]; rfl))
                     refine pure_ (i := 24) (N := some 71) (v := ?_) (a' := ?_) (flg_ 41 33554431) rfl rfl (any_of HT_.out (by kernel_rfl)) (fun _ _ _ h => h) (Or.inl ⟨by rfl, ?_⟩) ?_ ?_
                     rotate_left; (· (intro w'; go_simp; with_reducible rfl)); rotate_left; (· (simp only [Act.put, sz_, s0_, s1_, i64_w, i32_w]; rfl))
                     refine take_ (i := 25) (N := some 72) (v := ?_) (a' := ?_) (flg_ 41 67108863) rfl rfl (take_ofW HT_.out HW_.out (by kernel_rfl)) (fun _ _ _ h => h) (Or.inl ⟨by rfl, ?_⟩) hHeld ?_ ?_
                     rotate_left; (· (rintro w' ⟨s0, s1, s2, s3, s4, s5, s6, s7⟩; go_simp; with_reducible rfl)); rotate_left; (· (simp only [Act.put, sz_, s0_, s1_, i64_w, i32_w]; rfl))
                     refine pure_ (i := 26) (N := some 73) (v := ?_) (a' := ?_) (flg_ 41 134217727) rfl rfl (any_of HT_.out (by kernel_rfl)) (fun _ _ _ h => h) (Or.inl ⟨by rfl, ?_⟩) ?_ ?_
                     rotate_left; (· (intro w'; go_simp; with_reducible rfl)); rotate_left; (· (simp only [Act.put, sz_, s0_, s1_, i64_w, i32_w]; rfl))
                     refine pure_ (i := 27) (N := some 74) (v := ?_) (a' := ?_) (flg_ 41 268435455) rfl rfl (any_of HT_.out (by kernel_rfl)) (fun _ _ _ h => h) (Or.inl ⟨by rfl, ?_⟩) ?_ ?_
                     rotate_left; (· (intro w'; go_simp; with_reducible rfl)); rotate_left; (· (simp only [Act.put, sz_, s0_, s1_, i64_w, i32_w]; rfl))
                     refine pure_ (i := 28) (N := some 75) (v := ?_) (a' := ?_) (flg_ 41 536870911) rfl rfl (any_of HT_.out (by kernel_rfl)) (fun _ _ _ h => h) (Or.inl ⟨by rfl, ?_⟩) ?_ ?_
                     rotate_left; (· (intro w'; go_simp; with_reducible rfl)); rotate_left; (· (simp only [Act.put, sz_, s0_, s1_, i64_w, i32_w]; rfl))
                     refine pure_ (i := 29) (N := some 76) (v := ?_) (a' := ?_) (flg_ 41 1073741823) rfl rfl (any_of HT_.out (by kernel_rfl)) (fun _ _ _ h => h) (Or.inl ⟨by rfl, ?_⟩) ?_ ?_
                     rotate_left; (· (intro w'; go_simp; with_reducible rfl)); rotate_left; (· (simp only [Act.put, sz_, s0_, s1_, i64_w, i32_w]; rfl))
                     refine pure_ (i := 30) (N := some 77) (v := ?_) (a' := ?_) (flg_ 41 2147483647) rfl rfl (any_of HT_.out (by kernel_rfl)) (fun _ _ _ h => h) (Or.inl ⟨by rfl, ?_⟩) ?_ ?_
                     rotate_left; (· (intro w'; go_simp; with_reducible rfl)); rotate_left; (· (simp only [Act.put, sz_, s0_, s1_, i64_w, i32_w]; rfl))
                     refine pure_ (i := 31) (N := some 78) (v := ?_) (a' := ?_) (flg_ 41 4294967295) rfl rfl (any_of HT_.out (by kernel_rfl)) (fun _ _ _ h => h) (Or.inl ⟨by rfl, ?_⟩) ?_ ?_
                     rotate_left; (· (intro w'; go_simp; with_reducible rfl)); rotate_left; (· (simp only [Act.put, sz_, s0_, s1_, i64_w, i32_w]; rfl))
                     refine pure_ (i := 33) (N := some 80) (v := ?_) (a' := ?_) (flg_ 41 12884901887) rfl rfl (any_of HT_.out (by kernel_rfl)) (fun _ _ _ h => h) (Or.inl ⟨by rfl, ?_⟩) ?_ ?_
                     rotate_left; (· (intro w'; go_simp; with_reducible rfl)); rotate_left; (· (simp only [Act.put, sz_, s0_, s1_, i64_w, i32_w]; rfl))
                     refine pure_ (i := 34) (N := some 81) (v := ?_) (a' := ?_) (flg_ 41 30064771071) rfl rfl (any_of HT_.out (by kernel_rfl)) (fun _ _ _ h => h) (Or.inl ⟨by rfl, ?_⟩) ?_ ?_
                     rotate_left; (· (intro w'; go_simp; with_reducible rfl)); rotate_left; (· (simp only [Act.put, sz_, s0_, s1_, i64_w, i32_w]; rfl))
                     refine pure_ (i := 35) (N := some 82) (v := ?_) (a' := ?_) (flg_ 41 64424509439) rfl rfl (any_of HT_.out (by kernel_rfl)) (fun _ _ _ h => h) (Or.inl ⟨by rfl, ?_⟩) ?_ ?_
                     rotate_left; (· (intro w'; go_simp; with_reducible rfl)); rotate_left; (· (simp only [Act.put, sz_, s0_, s1_, i64_w, i32_w]; rfl))
                     refine pure_ (i := 36) (N := some 83) (v := ?_) (a' := ?_) (flg_ 41 133143986175) rfl rfl (any_of HT_.out (by kernel_rfl)) (fun _ _ _ h => h) (Or.inl ⟨by rfl, ?_⟩) ?_ ?_
                     rotate_left; (· (intro w'; go_simp; with_reducible rfl)); rotate_left; (· (simp only [Act.put, sz_, s0_, s1_, i64_w, i32_w]; rfl))
                     refine take_ (i := 32) (N := some 79) (v := ?_) (a' := ?_) (flg_ 41 137438953471) rfl rfl (take_ofW HT_.out HW_.out (by kernel_rfl)) (fun _ _ _ h => h) (Or.inl ⟨by rfl, ?_⟩) hHeld ?_ ?_
                     rotate_left; (· (rintro w' ⟨s0, s1, s2, s3, s4, s5, s6, s7⟩; go_simp; with_reducible rfl)); rotate_left; (· (simp only [Act.put, sz_, s0_, s1_, i64_w, i32_w]; rfl))
                     refine take_ (i := 37) (N := some 84) (v := ?_) (a' := ?_) (flg_ 41 274877906943) rfl rfl (take_ofW HT_.out HW_.out (by kernel_rfl)) (fun _ _ _ h => h) (Or.inl ⟨by rfl, ?_⟩) hHeld ?_ ?_
                     rotate_left; (· (rintro w' ⟨s0, s1, s2, s3, s4, s5, s6, s7⟩; go_simp; with_reducible rfl)); rotate_left; (· (simp only [Act.put, sz_, s0_, s1_, i64_w, i32_w]; rfl))
                     refine pure_ (i := 38) (N := some 85) (v := ?_) (a' := ?_) (flg_ 41 549755813887) rfl rfl (any_of HT_.out (by kernel_rfl)) (fun _ _ _ h => h) (Or.inl ⟨by rfl, ?_⟩) ?_ ?_
                     rotate_left; (· (intro w'; go_simp; with_reducible rfl)); rotate_left; (· (simp only [Act.put, sz_, s0_, s1_, i64_w, i32_w]; rfl))
                     refine pure_ (i := 39) (N := some 86) (v := ?_) (a' := ?_) (flg_ 41 1099511627775) rfl rfl (any_of HT_.out (by kernel_rfl)) (fun _ _ _ h => h) (Or.inl ⟨by rfl, ?_⟩) ?_ ?_
                     rotate_left; (· (intro w'; go_simp; with_reducible rfl)); rotate_left; (· (simp only [Act.put, sz_, s0_, s1_, i64_w, i32_w]; rfl))
                     refine pure_ (i := 40) (N := some 87) (v := ?_) (a' := ?_) (flg_ 41 2199023255551) rfl rfl (any_of HT_.out (by kernel_rfl)) (fun _ _ _ h => h) (Or.inl ⟨by rfl, ?_⟩) ?_ ?_
                     rotate_left; (· (intro w'; go_simp; with_reducible rfl)); rotate_left; (· (simp only [Act.put, sz_, s0_, s1_, i64_w, i32_w]; rfl))
                     refine done_ (done_of HT_.out (by kernel_rfl)) ?_
                     have p187 : 0 ≤ (x6_1 : Int) := oda
                     have q187 : x6_1 < (l1.length : Int) := oda
                     obtain ⟨ad187, e187, hx187_0⟩ := Kd.at_int HR1.out x6_1 p187 q187
                     obtain rfl : ad182 = ad187 := (by injection e187)
                     replace hx187_0 := (HB.out.cell (World.block_lt_of_cell? w _ hx187_0)).trans hx187_0
                     replace p187 := eq_true p187
                     replace q187 := eq_true q187
                     try go_wp2
                     go_roundg k2
                     case measure => have := HK1.out; have := HK2.out; omega
                     case rel => exact ⟨(Go.bits .or .i64 x5_1 (rd l1 x6_1)), (wrap64 (x6_1 + 1)), (by first | rfl | (simp; done) | (simp [*]; done)), (by first | rfl | (simp; done) | (simp [*]; done)), H', ⟨by have := HK1.out; have := HK2.out; omega⟩, ⟨by (with_reducible repeat (first | refine blk_drewN ?_ _ | refine blk_drew ?_ | refine blk_alloc ?_ _)); exact BK175.out⟩, ⟨by repeat (first | (with_reducible first | exact HB.out | apply below_alloc | apply pw_below_drewN | apply below_drew1 | refine below_set ?_ GE175.out) | exact HB.out)⟩⟩
                   ·rw [if_neg c31] at H
                    exact absurd H (by simp)
                  ·rw [if_neg c30] at H
                   have c30b0 : ((rd l0_2 x6_1) == (rd l0_2 (ji27))) = false := beq_eq_false_iff_ne.mpr c30
                   have c30b1 : ((rd l0_2 x6_1) != (rd l0_2 (ji27))) = true := bne_iff_ne.mpr c30
                   have H' := Aside0.mk H
                   clear H
                   obtain ⟨Ao37, co37, eo37⟩ := Kd.R_slice HO_8.out
                   subst eo37
                   try go_wp2
                   have n0_ := Aside0.mk (Kd.R_drew HO_8.out)
                   have n1_ := Aside0.mk (blk_drew BK175.out)
                   have n2_ := Aside0.mk (below_drew1 HB.out)
                   clear HO_8
                   clear BK175
                   clear HB
                   have HO_8 := n0_
                   have BK175 := n1_
                   have HB := n2_
                   clear n0_ n1_ n2_
                   have p182 : 0 ≤ (x6_1 : Int) := oda
                   have q182 : x6_1 < (l1.length : Int) := oda
                   obtain ⟨ad182, e182, hx182_0⟩ := Kd.at_int HR1.out x6_1 p182 q182
                   have hw182_0 := hx182_0
                   cases e182
                   replace hx182_0 := (HB.out.cell (World.block_lt_of_cell? w _ hx182_0)).trans hx182_0
                   replace p182 := eq_true p182
                   replace q182 := eq_true q182
                   have p183 : 0 ≤ (x6_1 : Int) := oda
                   have q183 : x6_1 < (l0_2.length : Int) := oda
                   obtain ⟨ad183, e183, hx183_0⟩ := Kd.at_int HR0_2.out x6_1 p183 q183
                   have hw183_0 := hx183_0
                   obtain rfl : ad176 = ad183 := (by injection e183)
                   replace hx183_0 := (HB.out.cell (World.block_lt_of_cell? w _ hx183_0)).trans hx183_0
                   replace p183 := eq_true p183
                   replace q183 := eq_true q183
                   have p184 : 0 ≤ ((ji27) : Int) := oda
                   have q184 : (ji27) < (l0_2.length : Int) := oda
                   obtain ⟨ad184, e184, hx184_0⟩ := Kd.at_int HR0_2.out (ji27) p184 q184
                   have hw184_0 := hx184_0
                   obtain rfl : ad176 = ad184 := (by injection e184)
                   replace hx184_0 := (HB.out.cell (World.block_lt_of_cell? w _ hx184_0)).trans hx184_0
                   replace p184 := eq_true p184
                   replace q184 := eq_true q184
                   refine start_ (n := 41) (S := fun w' => w'.cell? ⟨gb175, 0, none⟩ = some (.int .i64 a0_0) ∧ w'.cell? ⟨gb175, 1, none⟩ = some (.int .i64 a0_1) ∧ w'.cell? ⟨gb175, 2, none⟩ = some (.slice (some ad176) l0_2.length c0_2) ∧ w'.cell? (ad182.add (x6_1).toNat) = some (.int .i64 (rd l1 x6_1)) ∧ w'.cell? (ad176.add (x6_1).toNat) = some (.int .i64 (rd l0_2 x6_1)) ∧ w'.cell? (ad176.add ((ji27)).toNat) = some (.int .i64 (rd l0_2 (ji27)))) (ds := []) #[false, false, false, false, false, false, false, false, false, false, false, false, false, false, false, false, false, false, false, false, false, false, false, false, false, false, false, false, false, false, false, false, false, false, false, false, false, false, false, false, false] (by kernel_rfl) rfl rfl ⟨(blk_cell BK175.out 0).trans rfl, (blk_cell BK175.out 1).trans rfl, (blk_cell BK175.out 2).trans rfl, ((HB.out.cell (World.block_lt_of_cell? w _ hw182_0)).trans hw182_0), ((HB.out.cell (World.block_lt_of_cell? w _ hw183_0)).trans hw183_0), ((HB.out.cell (World.block_lt_of_cell? w _ hw184_0)).trans hw184_0)⟩ (fun hHeld => ?_); refine with_tabW spec_l09Fleet.tab13 spec_l09Fleet.bits13 (fun HT_ HW_ => ?_)
                   generalize wr.drew = w38 at HO_8 BK175 HB hx182_0 hx183_0 hx184_0 hHeld ⊢
                   refine pure_ (i := 0) (N := some 47) (v := ?_) (a' := ?_) (flg_ 41 1) rfl rfl (any_of HT_.out (by kernel_rfl)) (fun _ _ _ h => h) (Or.inl ⟨by rfl, ?_⟩) ?_ ?_
                   rotate_left; (· (intro w'; go_simp; with_reducible rfl)); rotate_left; (· (simp only [Act.put, sz_, s0_, s1_, i64_w, i32_w]; rfl))
                   refine pure_ (i := 1) (N := some 48) (v := ?_) (a' := ?_) (flg_ 41 3) rfl rfl (any_of HT_.out (by kernel_rfl)) (fun _ _ _ h => h) (Or.inl ⟨by rfl, ?_⟩) ?_ ?_
                   rotate_left; (· (intro w'; go_simp; with_reducible rfl)); rotate_left; (· (simp only [Act.put, sz_, s0_, s1_, i64_w, i32_w]; rfl))
                   refine pure_ (i := 2) (N := some 49) (v := ?_) (a' := ?_) (flg_ 41 7) rfl rfl (any_of HT_.out (by kernel_rfl)) (fun _ _ _ h => h) (Or.inl ⟨by rfl, ?_⟩) ?_ ?_
                   rotate_left; (· (intro w'; go_simp; with_reducible rfl)); rotate_left; (· (simp only [Act.put, sz_, s0_, s1_, i64_w, i32_w]; rfl))
                   refine pure_ (i := 3) (N := some 50) (v := ?_) (a' := ?_) (flg_ 41 15) rfl rfl (any_of HT_.out (by kernel_rfl)) (fun _ _ _ h => h) (Or.inl ⟨by rfl, ?_⟩) ?_ ?_
                   rotate_left; (· (intro w'; go_simp; with_reducible rfl)); rotate_left; (· (simp only [Act.put, sz_, s0_, s1_, i64_w, i32_w]; rfl))
                   refine pure_ (i := 4) (N := some 51) (v := ?_) (a' := ?_) (flg_ 41 31) rfl rfl (any_of HT_.out (by kernel_rfl)) (fun _ _ _ h => h) (Or.inl ⟨by rfl, ?_⟩) ?_ ?_
                   rotate_left; (· (intro w'; go_simp; with_reducible rfl)); rotate_left; (· (simp only [Act.put, sz_, s0_, s1_, i64_w, i32_w]; rfl))
                   refine pure_ (i := 5) (N := some 52) (v := ?_) (a' := ?_) (flg_ 41 63) rfl rfl (any_of HT_.out (by kernel_rfl)) (fun _ _ _ h => h) (Or.inl ⟨by rfl, ?_⟩) ?_ ?_
                   rotate_left; (· (intro w'; go_simp; with_reducible rfl)); rotate_left; (· (simp only [Act.put, sz_, s0_, s1_, i64_w, i32_w]; rfl))
                   refine pure_ (i := 7) (N := some 54) (v := ?_) (a' := ?_) (flg_ 41 191) rfl rfl (any_of HT_.out (by kernel_rfl)) (fun _ _ _ h => h) (Or.inl ⟨by rfl, ?_⟩) ?_ ?_
                   rotate_left; (· (intro w'; go_simp; with_reducible rfl)); rotate_left; (· (simp only [Act.put, sz_, s0_, s1_, i64_w, i32_w]; rfl))
                   refine take_ (i := 6) (N := some 53) (v := ?_) (a' := ?_) (flg_ 41 255) rfl rfl (take_ofW HT_.out HW_.out (by kernel_rfl)) (fun _ _ _ h => h) (Or.inl ⟨by rfl, ?_⟩) hHeld ?_ ?_
                   rotate_left; (· (rintro w' ⟨s0, s1, s2, s3, s4, s5⟩; go_simp; with_reducible rfl)); rotate_left; (· (simp only [Act.put, sz_, s0_, s1_, i64_w, i32_w]; rfl))
                   refine pure_ (i := 8) (N := some 55) (v := ?_) (a' := ?_) (flg_ 41 511) rfl rfl (any_of HT_.out (by kernel_rfl)) (fun _ _ _ h => h) (Or.inl ⟨by rfl, ?_⟩) ?_ ?_
                   rotate_left; (· (intro w'; go_simp; with_reducible rfl)); rotate_left; (· (simp only [Act.put, sz_, s0_, s1_, i64_w, i32_w]; rfl))
                   refine pure_ (i := 9) (N := some 56) (v := ?_) (a' := ?_) (flg_ 41 1023) rfl rfl (any_of HT_.out (by kernel_rfl)) (fun _ _ _ h => h) (Or.inl ⟨by rfl, ?_⟩) ?_ ?_
                   rotate_left; (· (intro w'; go_simp; with_reducible rfl)); rotate_left; (· (simp only [Act.put, sz_, s0_, s1_, i64_w, i32_w]; rfl))
                   refine pure_ (i := 10) (N := some 57) (v := ?_) (a' := ?_) (flg_ 41 2047) rfl rfl (any_of HT_.out (by kernel_rfl)) (fun _ _ _ h => h) (Or.inl ⟨by rfl, ?_⟩) ?_ ?_
                   rotate_left; (· (intro w'; go_simp; with_reducible rfl)); rotate_left; (· (simp only [Act.put, sz_, s0_, s1_, i64_w, i32_w]; rfl))
                   refine pure_ (i := 11) (N := some 58) (v := ?_) (a' := ?_) (flg_ 41 4095) rfl rfl (any_of HT_.out (by kernel_rfl)) (fun _ _ _ h => h) (Or.inl ⟨by rfl, ?_⟩) ?_ ?_
                   rotate_left; (· (intro w'; go_simp; with_reducible rfl)); rotate_left; (· (simp only [Act.put, sz_, s0_, s1_, i64_w, i32_w]; rfl))
                   refine pure_ (i := 12) (N := some 59) (v := ?_) (a' := ?_) (flg_ 41 8191) rfl rfl (any_of HT_.out (by kernel_rfl)) (fun _ _ _ h => h) (Or.inl ⟨by rfl, ?_⟩) ?_ ?_
                   rotate_left; (· (intro w'; go_simp; with_reducible rfl)); rotate_left; (· (simp only [Act.put, sz_, s0_, s1_, i64_w, i32_w]; rfl))
                   refine pure_ (i := 13) (N := some 60) (v := ?_) (a' := ?_) (flg_ 41 16383) rfl rfl (any_of HT_.out (by kernel_rfl)) (fun _ _ _ h => h) (Or.inl ⟨by rfl, ?_⟩) ?_ ?_
                   rotate_left; (· (intro w'; go_simp; with_reducible rfl)); rotate_left; (· (simp only [Act.put, sz_, s0_, s1_, i64_w, i32_w]; rfl))
                   refine pure_ (i := 14) (N := some 61) (v := ?_) (a' := ?_) (flg_ 41 32767) rfl rfl (any_of HT_.out (by kernel_rfl)) (fun _ _ _ h => h) (Or.inl ⟨by rfl, ?_⟩) ?_ ?_
                   rotate_left; (· (intro w'; go_simp; with_reducible rfl)); rotate_left; (· (simp only [Act.put, sz_, s0_, s1_, i64_w, i32_w]; rfl))
                   refine pure_ (i := 15) (N := some 62) (v := ?_) (a' := ?_) (flg_ 41 65535) rfl rfl (any_of HT_.out (by kernel_rfl)) (fun _ _ _ h => h) (Or.inl ⟨by rfl, ?_⟩) ?_ ?_
                   rotate_left; (· (intro w'; go_simp; with_reducible rfl)); rotate_left; (· (simp only [Act.put, sz_, s0_, s1_, i64_w, i32_w]; rfl))
                   refine pure_ (i := 17) (N := some 64) (v := ?_) (a' := ?_) (flg_ 41 196607) rfl rfl (any_of HT_.out (by kernel_rfl)) (fun _ _ _ h => h) (Or.inl ⟨by rfl, ?_⟩) ?_ ?_
                   rotate_left; (· (intro w'; go_simp; with_reducible rfl)); rotate_left; (· (simp only [Act.put, sz_, s0_, s1_, i64_w, i32_w]; rfl))
                   refine pure_ (i := 20) (N := some 67) (v := ?_) (a' := ?_) (flg_ 41 1245183) rfl rfl (any_of HT_.out (by kernel_rfl)) (fun _ _ _ h => h) (Or.inl ⟨by rfl, ?_⟩) ?_ ?_
                   rotate_left; (· (intro w'; go_simp; with_reducible rfl)); rotate_left; (· (simp only [Act.put, sz_, s0_, s1_, i64_w, i32_w]; rfl))
                   refine pure_ (i := 22) (N := some 69) (v := ?_) (a' := ?_) (flg_ 41 5439487) rfl rfl (any_of HT_.out (by kernel_rfl)) (fun _ _ _ h => h) (Or.inl ⟨by rfl, ?_⟩) ?_ ?_
                   rotate_left; (· (intro w'; go_simp; with_reducible rfl)); rotate_left; (· (simp only [Act.put, sz_, s0_, s1_, i64_w, i32_w]; rfl))
                   refine pure_ (i := 23) (N := some 70) (v := ?_) (a' := ?_) (flg_ 41 13828095) rfl rfl (any_of HT_.out (by kernel_rfl)) (fun _ _ _ h => h) (Or.inl ⟨by rfl, ?_⟩) ?_ ?_
                   rotate_left; (· (intro w'; go_simp; with_reducible rfl)); rotate_left; (· (simp only [Act.put, sz_, s0_, s1_, i64_w, i32_w]; rfl))
                   refine take_ (i := 16) (N := some 63) (v := ?_) (a' := ?_) (flg_ 41 13893631) rfl rfl (take_ofW HT_.out HW_.out (by kernel_rfl)) (fun _ _ _ h => h) (Or.inl ⟨by rfl, ?_⟩) hHeld ?_ ?_
                   rotate_left; (· (rintro w' ⟨s0, s1, s2, s3, s4, s5⟩; go_simp; with_reducible rfl)); rotate_left; (· (simp only [Act.put, sz_, s0_, s1_, i64_w, i32_w]; rfl))
                   refine pure_ (i := 18) (N := some 65) (v := ?_) (a' := ?_) (flg_ 41 14155775) rfl rfl (any_of HT_.out (by kernel_rfl)) (fun _ _ _ h => h) (Or.inl ⟨by rfl, ?_⟩) ?_ ?_
                   rotate_left; (· (intro w'; go_simp; with_reducible rfl)); rotate_left; (· (simp only [Act.put, sz_, s0_, s1_, i64_w, i32_w]; rfl))
                   refine take_ (i := 19) (N := some 66) (v := ?_) (a' := ?_) (flg_ 41 14680063) rfl rfl (take_ofW HT_.out HW_.out (by kernel_rfl)) (fun _ _ _ h => h) (Or.inl ⟨by rfl, ?_⟩) hHeld ?_ ?_
                   rotate_left; (· (rintro w' ⟨s0, s1, s2, s3, s4, s5⟩; go_simp; with_reducible rfl)); rotate_left; (· (simp only [Act.put, sz_, s0_, s1_, i64_w, i32_w]; rfl))
                   refine take_ (i := 21) (N := some 68) (v := ?_) (a' := ?_) (flg_ 41 16777215) rfl rfl (take_ofW HT_.out HW_.out (by kernel_rfl)) (fun _ _ _ h => h) (Or.inl ⟨by rfl, ?_⟩) hHeld ?_ ?_
                   rotate_left; (· (rintro w' ⟨s0, s1, s2, s3, s4, s5⟩; go_simp; with_reducible rfl)); rotate_left; (· (simp only [Act.put, sz_, s0_, s1_, i64_w, i32_w]; rfl))
                   refine pure_ (i := 24) (N := some 71) (v := ?_) (a' := ?_) (flg_ 41 33554431) rfl rfl (any_of HT_.out (by kernel_rfl)) (fun _ _ _ h => h) (Or.inl ⟨by rfl, ?_⟩) ?_ ?_
                   rotate_left; (· (intro w'; go_simp; with_reducible rfl)); rotate_left; (· (simp only [Act.put, sz_, s0_, s1_, i64_w, i32_w]; rfl))
                   refine take_ (i := 25) (N := some 72) (v := ?_) (a' := ?_) (flg_ 41 67108863) rfl rfl (take_ofW HT_.out HW_.out (by kernel_rfl)) (fun _ _ _ h => h) (Or.inl ⟨by rfl, ?_⟩) hHeld ?_ ?_
                   rotate_left; (· (rintro w' ⟨s0, s1, s2, s3, s4, s5⟩; go_simp; with_reducible rfl)); rotate_left; (· (simp only [Act.put, sz_, s0_, s1_, i64_w, i32_w]; rfl))
                   refine pure_ (i := 26) (N := some 73) (v := ?_) (a' := ?_) (flg_ 41 134217727) rfl rfl (any_of HT_.out (by kernel_rfl)) (fun _ _ _ h => h) (Or.inl ⟨by rfl, ?_⟩) ?_ ?_
                   rotate_left; (· (intro w'; go_simp; with_reducible rfl)); rotate_left; (· (simp only [Act.put, sz_, s0_, s1_, i64_w, i32_w]; rfl))
                   refine pure_ (i := 27) (N := some 74) (v := ?_) (a' := ?_) (flg_ 41 268435455) rfl rfl (any_of HT_.out (by kernel_rfl)) (fun _ _ _ h => h) (Or.inl ⟨by rfl, ?_⟩) ?_ ?_
                   rotate_left; (· (intro w'; go_simp; with_reducible rfl)); rotate_left; (· (simp only [Act.put, sz_, s0_, s1_, i64_w, i32_w]; rfl))
                   refine pure_ (i := 28) (N := some 75) (v := ?_) (a' := ?_) (flg_ 41 536870911) rfl rfl (any_of HT_.out (by kernel_rfl)) (fun _ _ _ h => h) (Or.inl ⟨by rfl, ?_⟩) ?_ ?_
                   rotate_left; (· (intro w'; go_simp; with_reducible rfl)); rotate_left; (· (simp only [Act.put, sz_, s0_, s1_, i64_w, i32_w]; rfl))
                   refine pure_ (i := 29) (N := some 76) (v := undef) (a' := ?_) (flg_ 41 1073741823) rfl rfl (any_of HT_.out (by kernel_rfl)) (fun _ _ _ h => h) (Or.inr ⟨by rfl, rfl⟩) ?_ ?_
                   rotate_left
                   ·simp only [Act.put, sz_, s0_, s1_, i64_w, i32_w]
                    rfl
                   refine pure_ (i := 30) (N := some 77) (v := undef) (a' := ?_) (flg_ 41 2147483647) rfl rfl (any_of HT_.out (by kernel_rfl)) (fun _ _ _ h => h) (Or.inr ⟨by rfl, rfl⟩) ?_ ?_
                   rotate_left
                   ·simp only [Act.put, sz_, s0_, s1_, i64_w, i32_w]
                    rfl
                   refine pure_ (i := 31) (N := some 78) (v := undef) (a' := ?_) (flg_ 41 4294967295) rfl rfl (any_of HT_.out (by kernel_rfl)) (fun _ _ _ h => h) (Or.inr ⟨by rfl, rfl⟩) ?_ ?_
                   rotate_left
                   ·simp only [Act.put, sz_, s0_, s1_, i64_w, i32_w]
                    rfl
                   refine pure_ (i := 32) (N := some 79) (v := undef) (a' := ?_) (flg_ 41 8589934591) rfl rfl (any_of HT_.out (by kernel_rfl)) (fun _ _ _ h => h) (Or.inr ⟨by rfl, rfl⟩) ?_ ?_
                   rotate_left
                   ·simp only [Act.put, sz_, s0_, s1_, i64_w, i32_w]
                    rfl
                   refine pure_ (i := 33) (N := some 80) (v := undef) (a' := ?_) (flg_ 41 17179869183) rfl rfl (any_of HT_.out (by kernel_rfl)) (fun _ _ _ h => h) (Or.inr ⟨by rfl, rfl⟩) ?_ ?_
                   rotate_left
                   ·simp only [Act.put, sz_, s0_, s1_, i64_w, i32_w]
                    rfl
                   refine pure_ (i := 34) (N := some 81) (v := undef) (a' := ?_) (flg_ 41 34359738367) rfl rfl (any_of HT_.out (by kernel_rfl)) (fun _ _ _ h => h) (Or.inr ⟨by rfl, rfl⟩) ?_ ?_
                   rotate_left
                   ·simp only [Act.put, sz_, s0_, s1_, i64_w, i32_w]
                    rfl
                   refine pure_ (i := 35) (N := some 82) (v := undef) (a' := ?_) (flg_ 41 68719476735) rfl rfl (any_of HT_.out (by kernel_rfl)) (fun _ _ _ h => h) (Or.inr ⟨by rfl, rfl⟩) ?_ ?_
                   rotate_left
                   ·simp only [Act.put, sz_, s0_, s1_, i64_w, i32_w]
                    rfl
                   refine pure_ (i := 36) (N := some 83) (v := undef) (a' := ?_) (flg_ 41 137438953471) rfl rfl (any_of HT_.out (by kernel_rfl)) (fun _ _ _ h => h) (Or.inr ⟨by rfl, rfl⟩) ?_ ?_
                   rotate_left
                   ·simp only [Act.put, sz_, s0_, s1_, i64_w, i32_w]
                    rfl
                   refine pure_ (i := 37) (N := some 84) (v := undef) (a' := ?_) (flg_ 41 274877906943) rfl rfl (any_of HT_.out (by kernel_rfl)) (fun _ _ _ h => h) (Or.inr ⟨by rfl, rfl⟩) ?_ ?_
                   rotate_left
                   ·simp only [Act.put, sz_, s0_, s1_, i64_w, i32_w]
                    rfl
                   refine pure_ (i := 38) (N := some 85) (v := undef) (a' := ?_) (flg_ 41 549755813887) rfl rfl (any_of HT_.out (by kernel_rfl)) (fun _ _ _ h => h) (Or.inr ⟨by rfl, rfl⟩) ?_ ?_
                   rotate_left
                   ·simp only [Act.put, sz_, s0_, s1_, i64_w, i32_w]
                    rfl
                   refine pure_ (i := 39) (N := some 86) (v := ?_) (a' := ?_) (flg_ 41 1099511627775) rfl rfl (any_of HT_.out (by kernel_rfl)) (fun _ _ _ h => h) (Or.inl ⟨by rfl, ?_⟩) ?_ ?_
                   rotate_left; (· (intro w'; go_simp; with_reducible rfl)); rotate_left; (· (simp only [Act.put, sz_, s0_, s1_, i64_w, i32_w]; rfl))
                   refine pure_ (i := 40) (N := some 87) (v := ?_) (a' := ?_) (flg_ 41 2199023255551) rfl rfl (any_of HT_.out (by kernel_rfl)) (fun _ _ _ h => h) (Or.inl ⟨by rfl, ?_⟩) ?_ ?_
                   rotate_left; (· (intro w'; go_simp; with_reducible rfl)); rotate_left; (· (simp only [Act.put, sz_, s0_, s1_, i64_w, i32_w]; rfl))
                   refine done_ (done_of HT_.out (by kernel_rfl)) ?_
                   have p188 : 0 ≤ (x6_1 : Int) := oda
                   have q188 : x6_1 < (l1.length : Int) := oda
                   obtain ⟨ad188, e188, hx188_0⟩ := Kd.at_int HR1.out x6_1 p188 q188
                   obtain rfl : ad182 = ad188 := (by injection e188)
                   replace hx188_0 := (HB.out.cell (World.block_lt_of_cell? w _ hx188_0)).trans hx188_0
                   replace p188 := eq_true p188
                   replace q188 := eq_true q188
                   try go_wp2
                   go_roundg k2
                   case measure => have := HK1.out; have := HK2.out; omega
                   case rel => exact ⟨(Go.bits .or .i64 x5_1 (rd l1 x6_1)), (wrap64 (x6_1 + 1)), (by first | rfl | (simp; done) | (simp [*]; done)), (by first | rfl | (simp; done) | (simp [*]; done)), H', ⟨by have := HK1.out; have := HK2.out; omega⟩, ⟨by (with_reducible repeat (first | refine blk_drewN ?_ _ | refine blk_drew ?_ | refine blk_alloc ?_ _)); exact BK175.out⟩, ⟨by repeat (first | (with_reducible first | exact HB.out | apply below_alloc | apply pw_below_drewN | apply below_drew1 | refine below_set ?_ GE175.out) | exact HB.out)⟩⟩
                 ·rw [if_neg c29] at H
                  exact absurd H (by simp)
                ·rw [if_neg c28] at H
                 exact absurd H (by simp)
               ·rw [if_neg c26] at H
                exact absurd H (by simp)
              ·rw [if_neg c25] at H
               have c25b0 : decide (0 < x6_1) = false := decide_eq_false c25
               clear c25
               have H' := Aside0.mk H
               clear H
               obtain ⟨Ao39, co39, eo39⟩ := Kd.R_slice HO_8.out
               subst eo39
               try go_wp2
               have n0_ := Aside0.mk (Kd.R_drew HO_8.out)
               have n1_ := Aside0.mk (blk_drew BK175.out)
               have n2_ := Aside0.mk (below_drew1 HB.out)
               clear HO_8
               clear BK175
               clear HB
               have HO_8 := n0_
               have BK175 := n1_
               have HB := n2_
               clear n0_ n1_ n2_
               have p182 : 0 ≤ (x6_1 : Int) := oda
               have q182 : x6_1 < (l1.length : Int) := oda
               obtain ⟨ad182, e182, hx182_0⟩ := Kd.at_int HR1.out x6_1 p182 q182
               have hw182_0 := hx182_0
               cases e182
               replace hx182_0 := (HB.out.cell (World.block_lt_of_cell? w _ hx182_0)).trans hx182_0
               replace p182 := eq_true p182
               replace q182 := eq_true q182
               refine start_ (n := 41) (S := fun w' => w'.cell? (ad182.add (x6_1).toNat) = some (.int .i64 (rd l1 x6_1))) (ds := []) #[false, false, false, false, false, false, false, false, false, false, false, false, false, false, false, false, false, false, false, false, false, false, false, false, false, false, false, false, false, false, false, false, false, false, false, false, false, false, false, false, false] (by kernel_rfl) rfl rfl (((HB.out.cell (World.block_lt_of_cell? w _ hw182_0)).trans hw182_0)) (fun hHeld => ?_); refine with_tabW spec_l09Fleet.tab13 spec_l09Fleet.bits13 (fun HT_ HW_ => ?_)
               generalize wr.drew = w40 at HO_8 BK175 HB hx182_0 hHeld ⊢
               refine pure_ (i := 0) (N := some 47) (v := ?_) (a' := ?_) (flg_ 41 1) rfl rfl (any_of HT_.out (by kernel_rfl)) (fun _ _ _ h => h) (Or.inl ⟨by rfl, ?_⟩) ?_ ?_
               rotate_left; (· (intro w'; go_simp; with_reducible rfl)); rotate_left; (· (simp only [Act.put, sz_, s0_, s1_, i64_w, i32_w]; rfl))
               refine pure_ (i := 1) (N := some 48) (v := ?_) (a' := ?_) (flg_ 41 3) rfl rfl (any_of HT_.out (by kernel_rfl)) (fun _ _ _ h => h) (Or.inl ⟨by rfl, ?_⟩) ?_ ?_
               rotate_left; (· (intro w'; go_simp; with_reducible rfl)); rotate_left; (· (simp only [Act.put, sz_, s0_, s1_, i64_w, i32_w]; rfl))
               refine pure_ (i := 2) (N := some 49) (v := ?_) (a' := ?_) (flg_ 41 7) rfl rfl (any_of HT_.out (by kernel_rfl)) (fun _ _ _ h => h) (Or.inl ⟨by rfl, ?_⟩) ?_ ?_
               rotate_left; (· (intro w'; go_simp; with_reducible rfl)); rotate_left; (· (simp only [Act.put, sz_, s0_, s1_, i64_w, i32_w]; rfl))
               refine pure_ (i := 3) (N := some 50) (v := ?_) (a' := ?_) (flg_ 41 15) rfl rfl (any_of HT_.out (by kernel_rfl)) (fun _ _ _ h => h) (Or.inl ⟨by rfl, ?_⟩) ?_ ?_
               rotate_left; (· (intro w'; go_simp; with_reducible rfl)); rotate_left; (· (simp only [Act.put, sz_, s0_, s1_, i64_w, i32_w]; rfl))
               refine pure_ (i := 4) (N := some 51) (v := ?_) (a' := ?_) (flg_ 41 31) rfl rfl (any_of HT_.out (by kernel_rfl)) (fun _ _ _ h => h) (Or.inl ⟨by rfl, ?_⟩) ?_ ?_
               rotate_left; (· (intro w'; go_simp; with_reducible rfl)); rotate_left; (· (simp only [Act.put, sz_, s0_, s1_, i64_w, i32_w]; rfl))
               refine pure_ (i := 5) (N := some 52) (v := ?_) (a' := ?_) (flg_ 41 63) rfl rfl (any_of HT_.out (by kernel_rfl)) (fun _ _ _ h => h) (Or.inl ⟨by rfl, ?_⟩) ?_ ?_
               rotate_left; (· (intro w'; go_simp; with_reducible rfl)); rotate_left; (· (simp only [Act.put, sz_, s0_, s1_, i64_w, i32_w]; rfl))
               refine pure_ (i := 7) (N := some 54) (v := ?_) (a' := ?_) (flg_ 41 191) rfl rfl (any_of HT_.out (by kernel_rfl)) (fun _ _ _ h => h) (Or.inl ⟨by rfl, ?_⟩) ?_ ?_
               rotate_left; (· (intro w'; go_simp; with_reducible rfl)); rotate_left; (· (simp only [Act.put, sz_, s0_, s1_, i64_w, i32_w]; rfl))
               refine take_ (i := 6) (N := some 53) (v := ?_) (a' := ?_) (flg_ 41 255) rfl rfl (take_ofW HT_.out HW_.out (by kernel_rfl)) (fun _ _ _ h => h) (Or.inl ⟨by rfl, ?_⟩) hHeld ?_ ?_
               rotate_left
               ·intro w' s0
                go_simp
                with_reducible rfl
               rotate_left
               ·simp only [Act.put, sz_, s0_, s1_, i64_w, i32_w]
                rfl
               refine pure_ (i := 8) (N := some 55) (v := ?_) (a' := ?_) (flg_ 41 511) rfl rfl (any_of HT_.out (by kernel_rfl)) (fun _ _ _ h => h) (Or.inl ⟨by rfl, ?_⟩) ?_ ?_
               rotate_left; (· (intro w'; go_simp; with_reducible rfl)); rotate_left; (· (simp only [Act.put, sz_, s0_, s1_, i64_w, i32_w]; rfl))
               refine pure_ (i := 9) (N := some 56) (v := ?_) (a' := ?_) (flg_ 41 1023) rfl rfl (any_of HT_.out (by kernel_rfl)) (fun _ _ _ h => h) (Or.inl ⟨by rfl, ?_⟩) ?_ ?_
               rotate_left; (· (intro w'; go_simp; with_reducible rfl)); rotate_left; (· (simp only [Act.put, sz_, s0_, s1_, i64_w, i32_w]; rfl))
               refine pure_ (i := 10) (N := some 57) (v := ?_) (a' := ?_) (flg_ 41 2047) rfl rfl (any_of HT_.out (by kernel_rfl)) (fun _ _ _ h => h) (Or.inl ⟨by rfl, ?_⟩) ?_ ?_
               rotate_left; (· (intro w'; go_simp; with_reducible rfl)); rotate_left; (· (simp only [Act.put, sz_, s0_, s1_, i64_w, i32_w]; rfl))
               refine pure_ (i := 11) (N := some 58) (v := ?_) (a' := ?_) (flg_ 41 4095) rfl rfl (any_of HT_.out (by kernel_rfl)) (fun _ _ _ h => h) (Or.inl ⟨by rfl, ?_⟩) ?_ ?_
               rotate_left; (· (intro w'; go_simp; with_reducible rfl)); rotate_left; (· (simp only [Act.put, sz_, s0_, s1_, i64_w, i32_w]; rfl))
               refine pure_ (i := 12) (N := some 59) (v := ?_) (a' := ?_) (flg_ 41 8191) rfl rfl (any_of HT_.out (by kernel_rfl)) (fun _ _ _ h => h) (Or.inl ⟨by rfl, ?_⟩) ?_ ?_
               rotate_left; (· (intro w'; go_simp; with_reducible rfl)); rotate_left; (· (simp only [Act.put, sz_, s0_, s1_, i64_w, i32_w]; rfl))
               refine pure_ (i := 13) (N := some 60) (v := ?_) (a' := ?_) (flg_ 41 16383) rfl rfl (any_of HT_.out (by kernel_rfl)) (fun _ _ _ h => h) (Or.inl ⟨by rfl, ?_⟩) ?_ ?_
               rotate_left; (· (intro w'; go_simp; with_reducible rfl)); rotate_left; (· (simp only [Act.put, sz_, s0_, s1_, i64_w, i32_w]; rfl))
               refine pure_ (i := 14) (N := some 61) (v := ?_) (a' := ?_) (flg_ 41 32767) rfl rfl (any_of HT_.out (by kernel_rfl)) (fun _ _ _ h => h) (Or.inl ⟨by rfl, ?_⟩) ?_ ?_
               rotate_left; (· (intro w'; go_simp; with_reducible rfl)); rotate_left; (· (simp only [Act.put, sz_, s0_, s1_, i64_w, i32_w]; rfl))
               refine pure_ (i := 15) (N := some 62) (v := undef) (a' := ?_) (flg_ 41 65535) rfl rfl (any_of HT_.out (by kernel_rfl)) (fun _ _ _ h => h) (Or.inr ⟨by rfl, rfl⟩) ?_ ?_
               rotate_left
               ·simp only [Act.put, sz_, s0_, s1_, i64_w, i32_w]
                rfl
               refine pure_ (i := 16) (N := some 63) (v := undef) (a' := ?_) (flg_ 41 131071) rfl rfl (any_of HT_.out (by kernel_rfl)) (fun _ _ _ h => h) (Or.inr ⟨by rfl, rfl⟩) ?_ ?_
               rotate_left
               ·simp only [Act.put, sz_, s0_, s1_, i64_w, i32_w]
                rfl
               refine pure_ (i := 17) (N := some 64) (v := undef) (a' := ?_) (flg_ 41 262143) rfl rfl (any_of HT_.out (by kernel_rfl)) (fun _ _ _ h => h) (Or.inr ⟨by rfl, rfl⟩) ?_ ?_
               rotate_left
               ·simp only [Act.put, sz_, s0_, s1_, i64_w, i32_w]
                rfl
               refine pure_ (i := 18) (N := some 65) (v := undef) (a' := ?_) (flg_ 41 524287) rfl rfl (any_of HT_.out (by kernel_rfl)) (fun _ _ _ h => h) (Or.inr ⟨by rfl, rfl⟩) ?_ ?_
               rotate_left
               ·simp only [Act.put, sz_, s0_, s1_, i64_w, i32_w]
                rfl
               refine pure_ (i := 19) (N := some 66) (v := undef) (a' := ?_) (flg_ 41 1048575) rfl rfl (any_of HT_.out (by kernel_rfl)) (fun _ _ _ h => h) (Or.inr ⟨by rfl, rfl⟩) ?_ ?_
               rotate_left
               ·simp only [Act.put, sz_, s0_, s1_, i64_w, i32_w]
                rfl
               refine pure_ (i := 20) (N := some 67) (v := undef) (a' := ?_) (flg_ 41 2097151) rfl rfl (any_of HT_.out (by kernel_rfl)) (fun _ _ _ h => h) (Or.inr ⟨by rfl, rfl⟩) ?_ ?_
               rotate_left
               ·simp only [Act.put, sz_, s0_, s1_, i64_w, i32_w]
                rfl
               refine pure_ (i := 21) (N := some 68) (v := undef) (a' := ?_) (flg_ 41 4194303) rfl rfl (any_of HT_.out (by kernel_rfl)) (fun _ _ _ h => h) (Or.inr ⟨by rfl, rfl⟩) ?_ ?_
               rotate_left
               ·simp only [Act.put, sz_, s0_, s1_, i64_w, i32_w]
                rfl
               refine pure_ (i := 22) (N := some 69) (v := undef) (a' := ?_) (flg_ 41 8388607) rfl rfl (any_of HT_.out (by kernel_rfl)) (fun _ _ _ h => h) (Or.inr ⟨by rfl, rfl⟩) ?_ ?_
               rotate_left
               ·simp only [Act.put, sz_, s0_, s1_, i64_w, i32_w]
                rfl
               refine pure_ (i := 23) (N := some 70) (v := undef) (a' := ?_) (flg_ 41 16777215) rfl rfl (any_of HT_.out (by kernel_rfl)) (fun _ _ _ h => h) (Or.inr ⟨by rfl, rfl⟩) ?_ ?_
               rotate_left
               ·simp only [Act.put, sz_, s0_, s1_, i64_w, i32_w]
                rfl
               refine pure_ (i := 24) (N := some 71) (v := undef) (a' := ?_) (flg_ 41 33554431) rfl rfl (any_of HT_.out (by kernel_rfl)) (fun _ _ _ h => h) (Or.inr ⟨by rfl, rfl⟩) ?_ ?_
               rotate_left
               ·simp only [Act.put, sz_, s0_, s1_, i64_w, i32_w]
                rfl
               refine pure_ (i := 25) (N := some 72) (v := undef) (a' := ?_) (flg_ 41 67108863) rfl rfl (any_of HT_.out (by kernel_rfl)) (fun _ _ _ h => h) (Or.inr ⟨by rfl, rfl⟩) ?_ ?_
               rotate_left
               ·simp only [Act.put, sz_, s0_, s1_, i64_w, i32_w]
                rfl
               refine pure_ (i := 26) (N := some 73) (v := undef) (a' := ?_) (flg_ 41 134217727) rfl rfl (any_of HT_.out (by kernel_rfl)) (fun _ _ _ h => h) (Or.inr ⟨by rfl, rfl⟩) ?_ ?_
               rotate_left
               ·simp only [Act.put, sz_, s0_, s1_, i64_w, i32_w]
                rfl
               refine pure_ (i := 27) (N := some 74) (v := ?_) (a' := ?_) (flg_ 41 268435455) rfl rfl (any_of HT_.out (by kernel_rfl)) (fun _ _ _ h => h) (Or.inl ⟨by rfl, ?_⟩) ?_ ?_
               rotate_left; (· (intro w'; go_simp; with_reducible rfl)); rotate_left; (· (simp only [Act.put, sz_, s0_, s1_, i64_w, i32_w]; rfl))
               refine pure_ (i := 28) (N := some 75) (v := ?_) (a' := ?_) (flg_ 41 536870911) rfl rfl (any_of HT_.out (by kernel_rfl)) (fun _ _ _ h => h) (Or.inl ⟨by rfl, ?_⟩) ?_ ?_
               rotate_left; (· (intro w'; go_simp; with_reducible rfl)); rotate_left; (· (simp only [Act.put, sz_, s0_, s1_, i64_w, i32_w]; rfl))
               refine pure_ (i := 29) (N := some 76) (v := undef) (a' := ?_) (flg_ 41 1073741823) rfl rfl (any_of HT_.out (by kernel_rfl)) (fun _ _ _ h => h) (Or.inr ⟨by rfl, rfl⟩) ?_ ?_
               rotate_left
               ·simp only [Act.put, sz_, s0_, s1_, i64_w, i32_w]
                rfl
               refine pure_ (i := 30) (N := some 77) (v := undef) (a' := ?_) (flg_ 41 2147483647) rfl rfl (any_of HT_.out (by kernel_rfl)) (fun _ _ _ h => h) (Or.inr ⟨by rfl, rfl⟩) ?_ ?_
               rotate_left
               ·simp only [Act.put, sz_, s0_, s1_, i64_w, i32_w]
                rfl
               refine pure_ (i := 31) (N := some 78) (v := undef) (a' := ?_) (flg_ 41 4294967295) rfl rfl (any_of HT_.out (by kernel_rfl)) (fun _ _ _ h => h) (Or.inr ⟨by rfl, rfl⟩) ?_ ?_
               rotate_left
               ·simp only [Act.put, sz_, s0_, s1_, i64_w, i32_w]
                rfl
               refine pure_ (i := 32) (N := some 79) (v := undef) (a' := ?_) (flg_ 41 8589934591) rfl rfl (any_of HT_.out (by kernel_rfl)) (fun _ _ _ h => h) (Or.inr ⟨by rfl, rfl⟩) ?_ ?_
               rotate_left
               ·simp only [Act.put, sz_, s0_, s1_, i64_w, i32_w]
                rfl
               refine pure_ (i := 33) (N := some 80) (v := undef) (a' := ?_) (flg_ 41 17179869183) rfl rfl (any_of HT_.out (by kernel_rfl)) (fun _ _ _ h => h) (Or.inr ⟨by rfl, rfl⟩) ?_ ?_
               rotate_left
               ·simp only [Act.put, sz_, s0_, s1_, i64_w, i32_w]
                rfl
               refine pure_ (i := 34) (N := some 81) (v := undef) (a' := ?_) (flg_ 41 34359738367) rfl rfl (any_of HT_.out (by kernel_rfl)) (fun _ _ _ h => h) (Or.inr ⟨by rfl, rfl⟩) ?_ ?_
               rotate_left
               ·simp only [Act.put, sz_, s0_, s1_, i64_w, i32_w]
                rfl
               refine pure_ (i := 35) (N := some 82) (v := undef) (a' := ?_) (flg_ 41 68719476735) rfl rfl (any_of HT_.out (by kernel_rfl)) (fun _ _ _ h => h) (Or.inr ⟨by rfl, rfl⟩) ?_ ?_
               rotate_left
               ·simp only [Act.put, sz_, s0_, s1_, i64_w, i32_w]
                rfl
               refine pure_ (i := 36) (N := some 83) (v := undef) (a' := ?_) (flg_ 41 137438953471) rfl rfl (any_of HT_.out (by kernel_rfl)) (fun _ _ _ h => h) (Or.inr ⟨by rfl, rfl⟩) ?_ ?_
               rotate_left
               ·simp only [Act.put, sz_, s0_, s1_, i64_w, i32_w]
                rfl
               refine pure_ (i := 37) (N := some 84) (v := undef) (a' := ?_) (flg_ 41 274877906943) rfl rfl (any_of HT_.out (by kernel_rfl)) (fun _ _ _ h => h) (Or.inr ⟨by rfl, rfl⟩) ?_ ?_
               rotate_left
               ·simp only [Act.put, sz_, s0_, s1_, i64_w, i32_w]
                rfl
               refine pure_ (i := 38) (N := some 85) (v := undef) (a' := ?_) (flg_ 41 549755813887) rfl rfl (any_of HT_.out (by kernel_rfl)) (fun _ _ _ h => h) (Or.inr ⟨by rfl, rfl⟩) ?_ ?_
               rotate_left
               ·simp only [Act.put, sz_, s0_, s1_, i64_w, i32_w]
                rfl
               refine pure_ (i := 39) (N := some 86) (v := ?_) (a' := ?_) (flg_ 41 1099511627775) rfl rfl (any_of HT_.out (by kernel_rfl)) (fun _ _ _ h => h) (Or.inl ⟨by rfl, ?_⟩) ?_ ?_
               rotate_left; (· (intro w'; go_simp; with_reducible rfl)); rotate_left; (· (simp only [Act.put, sz_, s0_, s1_, i64_w, i32_w]; rfl))
               refine pure_ (i := 40) (N := some 87) (v := ?_) (a' := ?_) (flg_ 41 2199023255551) rfl rfl (any_of HT_.out (by kernel_rfl)) (fun _ _ _ h => h) (Or.inl ⟨by rfl, ?_⟩) ?_ ?_
               rotate_left; (· (intro w'; go_simp; with_reducible rfl)); rotate_left; (· (simp only [Act.put, sz_, s0_, s1_, i64_w, i32_w]; rfl))
               refine done_ (done_of HT_.out (by kernel_rfl)) ?_
               have p189 : 0 ≤ (x6_1 : Int) := oda
               have q189 : x6_1 < (l1.length : Int) := oda
               obtain ⟨ad189, e189, hx189_0⟩ := Kd.at_int HR1.out x6_1 p189 q189
               obtain rfl : ad182 = ad189 := (by injection e189)
               replace hx189_0 := (HB.out.cell (World.block_lt_of_cell? w _ hx189_0)).trans hx189_0
               replace p189 := eq_true p189
               replace q189 := eq_true q189
               try go_wp2
               go_roundg k2
               case measure => have := HK1.out; have := HK2.out; omega
               case rel => exact ⟨(Go.bits .or .i64 x5_1 (rd l1 x6_1)), (wrap64 (x6_1 + 1)), (by first | rfl | (simp; done) | (simp [*]; done)), (by first | rfl | (simp; done) | (simp [*]; done)), H', ⟨by have := HK1.out; have := HK2.out; omega⟩, ⟨by (with_reducible repeat (first | refine blk_drewN ?_ _ | refine blk_drew ?_ | refine blk_alloc ?_ _)); exact BK175.out⟩, ⟨by repeat (first | (with_reducible first | exact HB.out | apply below_alloc | apply pw_below_drewN | apply below_drew1 | refine below_set ?_ GE175.out) | exact HB.out)⟩⟩
             ·rw [if_neg c24] at H
              have c24b0 : ((Go.bits .and .i64 (rd l1 x6_1) x5_1) == 0) = false := beq_eq_false_iff_ne.mpr c24
              have c24b1 : ((Go.bits .and .i64 (rd l1 x6_1) x5_1) != 0) = true := bne_iff_ne.mpr c24
              obtain rfl := Option.some.inj H
              obtain ⟨Ao41, co41, eo41⟩ := Kd.R_slice HO_8.out
              subst eo41
              try go_wp2
              have n0_ := Aside0.mk (Kd.R_drew HO_8.out)
              have n1_ := Aside0.mk (blk_drew BK175.out)
              have n2_ := Aside0.mk (below_drew1 HB.out)
              clear HO_8
              clear BK175
              clear HB
              have HO_8 := n0_
              have BK175 := n1_
              have HB := n2_
              clear n0_ n1_ n2_
              have p182 : 0 ≤ (x6_1 : Int) := oda
              have q182 : x6_1 < (l1.length : Int) := oda
              obtain ⟨ad182, e182, hx182_0⟩ := Kd.at_int HR1.out x6_1 p182 q182
              have hw182_0 := hx182_0
              cases e182
              replace hx182_0 := (HB.out.cell (World.block_lt_of_cell? w _ hx182_0)).trans hx182_0
              replace p182 := eq_true p182
              replace q182 := eq_true q182
              refine start_ (n := 41) (S := fun w' => w'.cell? (ad182.add (x6_1).toNat) = some (.int .i64 (rd l1 x6_1))) (ds := []) #[false, false, false, false, false, false, false, false, false, false, false, false, false, false, false, false, false, false, false, false, false, false, false, false, false, false, false, false, false, false, false, false, false, false, false, false, false, false, false, false, false] (by kernel_rfl) rfl rfl (((HB.out.cell (World.block_lt_of_cell? w _ hw182_0)).trans hw182_0)) (fun hHeld => ?_); refine with_tabW spec_l09Fleet.tab13 spec_l09Fleet.bits13 (fun HT_ HW_ => ?_)
              generalize wr.drew = w42 at HO_8 BK175 HB hx182_0 hHeld ⊢
              refine pure_ (i := 0) (N := some 47) (v := ?_) (a' := ?_) (flg_ 41 1) rfl rfl (any_of HT_.out (by kernel_rfl)) (fun _ _ _ h => h) (Or.inl ⟨by rfl, ?_⟩) ?_ ?_
              rotate_left; (· (intro w'; go_simp; with_reducible rfl)); rotate_left; (· (simp only [Act.put, sz_, s0_, s1_, i64_w, i32_w]; rfl))
              refine pure_ (i := 1) (N := some 48) (v := ?_) (a' := ?_) (flg_ 41 3) rfl rfl (any_of HT_.out (by kernel_rfl)) (fun _ _ _ h => h) (Or.inl ⟨by rfl, ?_⟩) ?_ ?_
              rotate_left; (· (intro w'; go_simp; with_reducible rfl)); rotate_left; (· (simp only [Act.put, sz_, s0_, s1_, i64_w, i32_w]; rfl))
              refine pure_ (i := 2) (N := some 49) (v := ?_) (a' := ?_) (flg_ 41 7) rfl rfl (any_of HT_.out (by kernel_rfl)) (fun _ _ _ h => h) (Or.inl ⟨by rfl, ?_⟩) ?_ ?_
              rotate_left; (· (intro w'; go_simp; with_reducible rfl)); rotate_left; (· (simp only [Act.put, sz_, s0_, s1_, i64_w, i32_w]; rfl))
              refine pure_ (i := 3) (N := some 50) (v := ?_) (a' := ?_) (flg_ 41 15) rfl rfl (any_of HT_.out (by kernel_rfl)) (fun _ _ _ h => h) (Or.inl ⟨by rfl, ?_⟩) ?_ ?_
              rotate_left; (· (intro w'; go_simp; with_reducible rfl)); rotate_left; (· (simp only [Act.put, sz_, s0_, s1_, i64_w, i32_w]; rfl))
              refine pure_ (i := 4) (N := some 51) (v := ?_) (a' := ?_) (flg_ 41 31) rfl rfl (any_of HT_.out (by kernel_rfl)) (fun _ _ _ h => h) (Or.inl ⟨by rfl, ?_⟩) ?_ ?_
              rotate_left; (· (intro w'; go_simp; with_reducible rfl)); rotate_left; (· (simp only [Act.put, sz_, s0_, s1_, i64_w, i32_w]; rfl))
              refine pure_ (i := 5) (N := some 52) (v := ?_) (a' := ?_) (flg_ 41 63) rfl rfl (any_of HT_.out (by kernel_rfl)) (fun _ _ _ h => h) (Or.inl ⟨by rfl, ?_⟩) ?_ ?_
              rotate_left; (· (intro w'; go_simp; with_reducible rfl)); rotate_left; (· (simp only [Act.put, sz_, s0_, s1_, i64_w, i32_w]; rfl))
              refine pure_ (i := 7) (N := some 54) (v := ?_) (a' := ?_) (flg_ 41 191) rfl rfl (any_of HT_.out (by kernel_rfl)) (fun _ _ _ h => h) (Or.inl ⟨by rfl, ?_⟩) ?_ ?_
              rotate_left; (· (intro w'; go_simp; with_reducible rfl)); rotate_left; (· (simp only [Act.put, sz_, s0_, s1_, i64_w, i32_w]; rfl))
              refine take_ (i := 6) (N := some 53) (v := ?_) (a' := ?_) (flg_ 41 255) rfl rfl (take_ofW HT_.out HW_.out (by kernel_rfl)) (fun _ _ _ h => h) (Or.inl ⟨by rfl, ?_⟩) hHeld ?_ ?_
              rotate_left
              ·intro w' s0
               go_simp
               with_reducible rfl
              rotate_left
              ·simp only [Act.put, sz_, s0_, s1_, i64_w, i32_w]
               rfl
              refine pure_ (i := 8) (N := some 55) (v := ?_) (a' := ?_) (flg_ 41 511) rfl rfl (any_of HT_.out (by kernel_rfl)) (fun _ _ _ h => h) (Or.inl ⟨by rfl, ?_⟩) ?_ ?_
              rotate_left; (· (intro w'; go_simp; with_reducible rfl)); rotate_left; (· (simp only [Act.put, sz_, s0_, s1_, i64_w, i32_w]; rfl))
              refine pure_ (i := 9) (N := some 56) (v := ?_) (a' := ?_) (flg_ 41 1023) rfl rfl (any_of HT_.out (by kernel_rfl)) (fun _ _ _ h => h) (Or.inl ⟨by rfl, ?_⟩) ?_ ?_
              rotate_left; (· (intro w'; go_simp; with_reducible rfl)); rotate_left; (· (simp only [Act.put, sz_, s0_, s1_, i64_w, i32_w]; rfl))
              refine pure_ (i := 10) (N := some 57) (v := ?_) (a' := ?_) (flg_ 41 2047) rfl rfl (any_of HT_.out (by kernel_rfl)) (fun _ _ _ h => h) (Or.inl ⟨by rfl, ?_⟩) ?_ ?_
              rotate_left; (· (intro w'; go_simp; with_reducible rfl)); rotate_left; (· (simp only [Act.put, sz_, s0_, s1_, i64_w, i32_w]; rfl))
              refine pure_ (i := 11) (N := some 58) (v := ?_) (a' := ?_) (flg_ 41 4095) rfl rfl (any_of HT_.out (by kernel_rfl)) (fun _ _ _ h => h) (Or.inl ⟨by rfl, ?_⟩) ?_ ?_
              rotate_left; (· (intro w'; go_simp; with_reducible rfl)); rotate_left; (· (simp only [Act.put, sz_, s0_, s1_, i64_w, i32_w]; rfl))
              refine pure_ (i := 12) (N := some 59) (v := undef) (a' := ?_) (flg_ 41 8191) rfl rfl (any_of HT_.out (by kernel_rfl)) (fun _ _ _ h => h) (Or.inr ⟨by rfl, rfl⟩) ?_ ?_
              rotate_left
              ·simp only [Act.put, sz_, s0_, s1_, i64_w, i32_w]
               rfl
              refine pure_ (i := 13) (N := some 60) (v := undef) (a' := ?_) (flg_ 41 16383) rfl rfl (any_of HT_.out (by kernel_rfl)) (fun _ _ _ h => h) (Or.inr ⟨by rfl, rfl⟩) ?_ ?_
              rotate_left
              ·simp only [Act.put, sz_, s0_, s1_, i64_w, i32_w]
               rfl
              refine pure_ (i := 14) (N := some 61) (v := undef) (a' := ?_) (flg_ 41 32767) rfl rfl (any_of HT_.out (by kernel_rfl)) (fun _ _ _ h => h) (Or.inr ⟨by rfl, rfl⟩) ?_ ?_
              rotate_left
              ·simp only [Act.put, sz_, s0_, s1_, i64_w, i32_w]
               rfl
              refine pure_ (i := 15) (N := some 62) (v := undef) (a' := ?_) (flg_ 41 65535) rfl rfl (any_of HT_.out (by kernel_rfl)) (fun _ _ _ h => h) (Or.inr ⟨by rfl, rfl⟩) ?_ ?_
              rotate_left
              ·simp only [Act.put, sz_, s0_, s1_, i64_w, i32_w]
               rfl
              refine pure_ (i := 16) (N := some 63) (v := undef) (a' := ?_) (flg_ 41 131071) rfl rfl (any_of HT_.out (by kernel_rfl)) (fun _ _ _ h => h) (Or.inr ⟨by rfl, rfl⟩) ?_ ?_
              rotate_left
              ·simp only [Act.put, sz_, s0_, s1_, i64_w, i32_w]
               rfl
              refine pure_ (i := 17) (N := some 64) (v := undef) (a' := ?_) (flg_ 41 262143) rfl rfl (any_of HT_.out (by kernel_rfl)) (fun _ _ _ h => h) (Or.inr ⟨by rfl, rfl⟩) ?_ ?_
              rotate_left
              ·simp only [Act.put, sz_, s0_, s1_, i64_w, i32_w]
               rfl
              refine pure_ (i := 18) (N := some 65) (v := undef) (a' := ?_) (flg_ 41 524287) rfl rfl (any_of HT_.out (by kernel_rfl)) (fun _ _ _ h => h) (Or.inr ⟨by rfl, rfl⟩) ?_ ?_
              rotate_left
              ·simp only [Act.put, sz_, s0_, s1_, i64_w, i32_w]
               rfl
              refine pure_ (i := 19) (N := some 66) (v := undef) (a' := ?_) (flg_ 41 1048575) rfl rfl (any_of HT_.out (by kernel_rfl)) (fun _ _ _ h => h) (Or.inr ⟨by rfl, rfl⟩) ?_ ?_
              rotate_left
              ·simp only [Act.put, sz_, s0_, s1_, i64_w, i32_w]
               rfl
              refine pure_ (i := 20) (N := some 67) (v := undef) (a' := ?_) (flg_ 41 2097151) rfl rfl (any_of HT_.out (by kernel_rfl)) (fun _ _ _ h => h) (Or.inr ⟨by rfl, rfl⟩) ?_ ?_
              rotate_left
              ·simp only [Act.put, sz_, s0_, s1_, i64_w, i32_w]
               rfl
              refine pure_ (i := 21) (N := some 68) (v := undef) (a' := ?_) (flg_ 41 4194303) rfl rfl (any_of HT_.out (by kernel_rfl)) (fun _ _ _ h => h) (Or.inr ⟨by rfl, rfl⟩) ?_ ?_
              rotate_left
              ·simp only [Act.put, sz_, s0_, s1_, i64_w, i32_w]
               rfl
              refine pure_ (i := 22) (N := some 69) (v := undef) (a' := ?_) (flg_ 41 8388607) rfl rfl (any_of HT_.out (by kernel_rfl)) (fun _ _ _ h => h) (Or.inr ⟨by rfl, rfl⟩) ?_ ?_
              rotate_left
              ·simp only [Act.put, sz_, s0_, s1_, i64_w, i32_w]
               rfl
              refine pure_ (i := 23) (N := some 70) (v := undef) (a' := ?_) (flg_ 41 16777215) rfl rfl (any_of HT_.out (by kernel_rfl)) (fun _ _ _ h => h) (Or.inr ⟨by rfl, rfl⟩) ?_ ?_
              rotate_left
              ·simp only [Act.put, sz_, s0_, s1_, i64_w, i32_w]
               rfl
              refine pure_ (i := 24) (N := some 71) (v := undef) (a' := ?_) (flg_ 41 33554431) rfl rfl (any_of HT_.out (by kernel_rfl)) (fun _ _ _ h => h) (Or.inr ⟨by rfl, rfl⟩) ?_ ?_
              rotate_left
              ·simp only [Act.put, sz_, s0_, s1_, i64_w, i32_w]
               rfl
              refine pure_ (i := 25) (N := some 72) (v := undef) (a' := ?_) (flg_ 41 67108863) rfl rfl (any_of HT_.out (by kernel_rfl)) (fun _ _ _ h => h) (Or.inr ⟨by rfl, rfl⟩) ?_ ?_
              rotate_left
              ·simp only [Act.put, sz_, s0_, s1_, i64_w, i32_w]
               rfl
              refine pure_ (i := 26) (N := some 73) (v := undef) (a' := ?_) (flg_ 41 134217727) rfl rfl (any_of HT_.out (by kernel_rfl)) (fun _ _ _ h => h) (Or.inr ⟨by rfl, rfl⟩) ?_ ?_
              rotate_left
              ·simp only [Act.put, sz_, s0_, s1_, i64_w, i32_w]
               rfl
              refine pure_ (i := 27) (N := some 74) (v := undef) (a' := ?_) (flg_ 41 268435455) rfl rfl (any_of HT_.out (by kernel_rfl)) (fun _ _ _ h => h) (Or.inr ⟨by rfl, rfl⟩) ?_ ?_
              rotate_left
              ·simp only [Act.put, sz_, s0_, s1_, i64_w, i32_w]
               rfl
              refine pure_ (i := 28) (N := some 75) (v := undef) (a' := ?_) (flg_ 41 536870911) rfl rfl (any_of HT_.out (by kernel_rfl)) (fun _ _ _ h => h) (Or.inr ⟨by rfl, rfl⟩) ?_ ?_
              rotate_left
              ·simp only [Act.put, sz_, s0_, s1_, i64_w, i32_w]
               rfl
              refine pure_ (i := 29) (N := some 76) (v := undef) (a' := ?_) (flg_ 41 1073741823) rfl rfl (any_of HT_.out (by kernel_rfl)) (fun _ _ _ h => h) (Or.inr ⟨by rfl, rfl⟩) ?_ ?_
              rotate_left
              ·simp only [Act.put, sz_, s0_, s1_, i64_w, i32_w]
               rfl
              refine pure_ (i := 30) (N := some 77) (v := undef) (a' := ?_) (flg_ 41 2147483647) rfl rfl (any_of HT_.out (by kernel_rfl)) (fun _ _ _ h => h) (Or.inr ⟨by rfl, rfl⟩) ?_ ?_
              rotate_left
              ·simp only [Act.put, sz_, s0_, s1_, i64_w, i32_w]
               rfl
              refine pure_ (i := 31) (N := some 78) (v := undef) (a' := ?_) (flg_ 41 4294967295) rfl rfl (any_of HT_.out (by kernel_rfl)) (fun _ _ _ h => h) (Or.inr ⟨by rfl, rfl⟩) ?_ ?_
              rotate_left
              ·simp only [Act.put, sz_, s0_, s1_, i64_w, i32_w]
               rfl
              refine pure_ (i := 32) (N := some 79) (v := undef) (a' := ?_) (flg_ 41 8589934591) rfl rfl (any_of HT_.out (by kernel_rfl)) (fun _ _ _ h => h) (Or.inr ⟨by rfl, rfl⟩) ?_ ?_
              rotate_left
              ·simp only [Act.put, sz_, s0_, s1_, i64_w, i32_w]
               rfl
              refine pure_ (i := 33) (N := some 80) (v := undef) (a' := ?_) (flg_ 41 17179869183) rfl rfl (any_of HT_.out (by kernel_rfl)) (fun _ _ _ h => h) (Or.inr ⟨by rfl, rfl⟩) ?_ ?_
              rotate_left
              ·simp only [Act.put, sz_, s0_, s1_, i64_w, i32_w]
               rfl
              refine pure_ (i := 34) (N := some 81) (v := undef) (a' := ?_) (flg_ 41 34359738367) rfl rfl (any_of HT_.out (by kernel_rfl)) (fun _ _ _ h => h) (Or.inr ⟨by rfl, rfl⟩) ?_ ?_
              rotate_left
              ·simp only [Act.put, sz_, s0_, s1_, i64_w, i32_w]
               rfl
              refine pure_ (i := 35) (N := some 82) (v := undef) (a' := ?_) (flg_ 41 68719476735) rfl rfl (any_of HT_.out (by kernel_rfl)) (fun _ _ _ h => h) (Or.inr ⟨by rfl, rfl⟩) ?_ ?_
              rotate_left
              ·simp only [Act.put, sz_, s0_, s1_, i64_w, i32_w]
               rfl
              refine pure_ (i := 36) (N := some 83) (v := undef) (a' := ?_) (flg_ 41 137438953471) rfl rfl (any_of HT_.out (by kernel_rfl)) (fun _ _ _ h => h) (Or.inr ⟨by rfl, rfl⟩) ?_ ?_
              rotate_left
              ·simp only [Act.put, sz_, s0_, s1_, i64_w, i32_w]
               rfl
              refine pure_ (i := 37) (N := some 84) (v := undef) (a' := ?_) (flg_ 41 274877906943) rfl rfl (any_of HT_.out (by kernel_rfl)) (fun _ _ _ h => h) (Or.inr ⟨by rfl, rfl⟩) ?_ ?_
              rotate_left
              ·simp only [Act.put, sz_, s0_, s1_, i64_w, i32_w]
               rfl
              refine pure_ (i := 38) (N := some 85) (v := undef) (a' := ?_) (flg_ 41 549755813887) rfl rfl (any_of HT_.out (by kernel_rfl)) (fun _ _ _ h => h) (Or.inr ⟨by rfl, rfl⟩) ?_ ?_
              rotate_left
              ·simp only [Act.put, sz_, s0_, s1_, i64_w, i32_w]
               rfl
              refine pure_ (i := 39) (N := some 86) (v := undef) (a' := ?_) (flg_ 41 1099511627775) rfl rfl (any_of HT_.out (by kernel_rfl)) (fun _ _ _ h => h) (Or.inr ⟨by rfl, rfl⟩) ?_ ?_
              rotate_left
              ·simp only [Act.put, sz_, s0_, s1_, i64_w, i32_w]
               rfl
              refine pure_ (i := 40) (N := some 87) (v := ?_) (a' := ?_) (flg_ 41 2199023255551) rfl rfl (any_of HT_.out (by kernel_rfl)) (fun _ _ _ h => h) (Or.inl ⟨by rfl, ?_⟩) ?_ ?_
              rotate_left; (· (intro w'; go_simp; with_reducible rfl)); rotate_left; (· (simp only [Act.put, sz_, s0_, s1_, i64_w, i32_w]; rfl))
              refine done_ (done_of HT_.out (by kernel_rfl)) ?_
              try go_wp2
              go_ret
              exact ⟨by first | rfl | (simp [errW_none, errW_some] <;> rfl) | (simp [*, errW_none, errW_some] <;> rfl), by repeat (first | (with_reducible first | exact HB.out | apply below_alloc | apply pw_below_drewN | apply below_drew1 | refine below_set ?_ GE175.out) | exact HB.out)⟩
            ·rw [if_neg c23] at H
             exact absurd H (by simp)
           ·rw [if_neg c22] at H
            exact absurd H (by simp)
          ·replace c21 := Bool.eq_false_iff.mpr c21
           subst c21
           have H1 : (some false) = some r := by rw [if_neg (show ¬ (false = true) by decide)] at H; exact H
           clear H
           have H := H1
           clear H1
           obtain rfl := Option.some.inj H
           obtain ⟨Ao43, co43, eo43⟩ := Kd.R_slice HO_8.out
           subst eo43
           try go_wp2
           have n0_ := Aside0.mk (Kd.R_drew HO_8.out)
           have n1_ := Aside0.mk (blk_drew BK175.out)
           have n2_ := Aside0.mk (below_drew1 HB.out)
           clear HO_8
           clear BK175
           clear HB
           have HO_8 := n0_
           have BK175 := n1_
           have HB := n2_
           clear n0_ n1_ n2_
           refine start_ (n := 41) (S := fun w' => True) (ds := []) #[false, false, false, false, false, false, false, false, false, false, false, false, false, false, false, false, false, false, false, false, false, false, false, false, false, false, false, false, false, false, false, false, false, false, false, false, false, false, false, false, false] (by kernel_rfl) rfl rfl trivial (fun hHeld => ?_); refine with_tabW spec_l09Fleet.tab13 spec_l09Fleet.bits13 (fun HT_ HW_ => ?_)
           generalize wr.drew = w44 at HO_8 BK175 HB hHeld ⊢
           refine pure_ (i := 0) (N := some 47) (v := ?_) (a' := ?_) (flg_ 41 1) rfl rfl (any_of HT_.out (by kernel_rfl)) (fun _ _ _ h => h) (Or.inl ⟨by rfl, ?_⟩) ?_ ?_
           rotate_left; (· (intro w'; go_simp; with_reducible rfl)); rotate_left; (· (simp only [Act.put, sz_, s0_, s1_, i64_w, i32_w]; rfl))
           refine pure_ (i := 1) (N := some 48) (v := ?_) (a' := ?_) (flg_ 41 3) rfl rfl (any_of HT_.out (by kernel_rfl)) (fun _ _ _ h => h) (Or.inl ⟨by rfl, ?_⟩) ?_ ?_
           rotate_left; (· (intro w'; go_simp; with_reducible rfl)); rotate_left; (· (simp only [Act.put, sz_, s0_, s1_, i64_w, i32_w]; rfl))
           refine pure_ (i := 2) (N := some 49) (v := ?_) (a' := ?_) (flg_ 41 7) rfl rfl (any_of HT_.out (by kernel_rfl)) (fun _ _ _ h => h) (Or.inl ⟨by rfl, ?_⟩) ?_ ?_
           rotate_left; (· (intro w'; go_simp; with_reducible rfl)); rotate_left; (· (simp only [Act.put, sz_, s0_, s1_, i64_w, i32_w]; rfl))
           refine pure_ (i := 3) (N := some 50) (v := undef) (a' := ?_) (flg_ 41 15) rfl rfl (any_of HT_.out (by kernel_rfl)) (fun _ _ _ h => h) (Or.inr ⟨by rfl, rfl⟩) ?_ ?_
           rotate_left
           ·simp only [Act.put, sz_, s0_, s1_, i64_w, i32_w]
            rfl
           refine pure_ (i := 4) (N := some 51) (v := undef) (a' := ?_) (flg_ 41 31) rfl rfl (any_of HT_.out (by kernel_rfl)) (fun _ _ _ h => h) (Or.inr ⟨by rfl, rfl⟩) ?_ ?_
           rotate_left
           ·simp only [Act.put, sz_, s0_, s1_, i64_w, i32_w]
            rfl
           refine pure_ (i := 5) (N := some 52) (v := undef) (a' := ?_) (flg_ 41 63) rfl rfl (any_of HT_.out (by kernel_rfl)) (fun _ _ _ h => h) (Or.inr ⟨by rfl, rfl⟩) ?_ ?_
           rotate_left
           ·simp only [Act.put, sz_, s0_, s1_, i64_w, i32_w]
            rfl
           refine pure_ (i := 6) (N := some 53) (v := undef) (a' := ?_) (flg_ 41 127) rfl rfl (any_of HT_.out (by kernel_rfl)) (fun _ _ _ h => h) (Or.inr ⟨by rfl, rfl⟩) ?_ ?_
           rotate_left
           ·simp only [Act.put, sz_, s0_, s1_, i64_w, i32_w]
            rfl
           refine pure_ (i := 7) (N := some 54) (v := undef) (a' := ?_) (flg_ 41 255) rfl rfl (any_of HT_.out (by kernel_rfl)) (fun _ _ _ h => h) (Or.inr ⟨by rfl, rfl⟩) ?_ ?_
           rotate_left
           ·simp only [Act.put, sz_, s0_, s1_, i64_w, i32_w]
            rfl
           refine pure_ (i := 8) (N := some 55) (v := undef) (a' := ?_) (flg_ 41 511) rfl rfl (any_of HT_.out (by kernel_rfl)) (fun _ _ _ h => h) (Or.inr ⟨by rfl, rfl⟩) ?_ ?_
           rotate_left
           ·simp only [Act.put, sz_, s0_, s1_, i64_w, i32_w]
            rfl
           refine pure_ (i := 9) (N := some 56) (v := undef) (a' := ?_) (flg_ 41 1023) rfl rfl (any_of HT_.out (by kernel_rfl)) (fun _ _ _ h => h) (Or.inr ⟨by rfl, rfl⟩) ?_ ?_
           rotate_left
           ·simp only [Act.put, sz_, s0_, s1_, i64_w, i32_w]
            rfl
           refine pure_ (i := 10) (N := some 57) (v := ?_) (a' := ?_) (flg_ 41 2047) rfl rfl (any_of HT_.out (by kernel_rfl)) (fun _ _ _ h => h) (Or.inl ⟨by rfl, ?_⟩) ?_ ?_
           rotate_left; (· (intro w'; go_simp; with_reducible rfl)); rotate_left; (· (simp only [Act.put, sz_, s0_, s1_, i64_w, i32_w]; rfl))
           refine pure_ (i := 11) (N := some 58) (v := ?_) (a' := ?_) (flg_ 41 4095) rfl rfl (any_of HT_.out (by kernel_rfl)) (fun _ _ _ h => h) (Or.inl ⟨by rfl, ?_⟩) ?_ ?_
           rotate_left; (· (intro w'; go_simp; with_reducible rfl)); rotate_left; (· (simp only [Act.put, sz_, s0_, s1_, i64_w, i32_w]; rfl))
           refine pure_ (i := 12) (N := some 59) (v := undef) (a' := ?_) (flg_ 41 8191) rfl rfl (any_of HT_.out (by kernel_rfl)) (fun _ _ _ h => h) (Or.inr ⟨by rfl, rfl⟩) ?_ ?_
           rotate_left
           ·simp only [Act.put, sz_, s0_, s1_, i64_w, i32_w]
            rfl
           refine pure_ (i := 13) (N := some 60) (v := undef) (a' := ?_) (flg_ 41 16383) rfl rfl (any_of HT_.out (by kernel_rfl)) (fun _ _ _ h => h) (Or.inr ⟨by rfl, rfl⟩) ?_ ?_
           rotate_left
           ·simp only [Act.put, sz_, s0_, s1_, i64_w, i32_w]
            rfl
           refine pure_ (i := 14) (N := some 61) (v := undef) (a' := ?_) (flg_ 41 32767) rfl rfl (any_of HT_.out (by kernel_rfl)) (fun _ _ _ h => h) (Or.inr ⟨by rfl, rfl⟩) ?_ ?_
           rotate_left
           ·simp only [Act.put, sz_, s0_, s1_, i64_w, i32_w]
            rfl
           refine pure_ (i := 15) (N := some 62) (v := undef) (a' := ?_) (flg_ 41 65535) rfl rfl (any_of HT_.out (by kernel_rfl)) (fun _ _ _ h => h) (Or.inr ⟨by rfl, rfl⟩) ?_ ?_
           rotate_left
           ·simp only [Act.put, sz_, s0_, s1_, i64_w, i32_w]
            rfl
           refine pure_ (i := 16) (N := some 63) (v := undef) (a' := ?_) (flg_ 41 131071) rfl rfl (any_of HT_.out (by kernel_rfl)) (fun _ _ _ h => h) (Or.inr ⟨by rfl, rfl⟩) ?_ ?_
           rotate_left
           ·simp only [Act.put, sz_, s0_, s1_, i64_w, i32_w]
            rfl
           refine pure_ (i := 17) (N := some 64) (v := undef) (a' := ?_) (flg_ 41 262143) rfl rfl (any_of HT_.out (by kernel_rfl)) (fun _ _ _ h => h) (Or.inr ⟨by rfl, rfl⟩) ?_ ?_
           rotate_left
           ·simp only [Act.put, sz_, s0_, s1_, i64_w, i32_w]
            rfl
           refine pure_ (i := 18) (N := some 65) (v := undef) (a' := ?_) (flg_ 41 524287) rfl rfl (any_of HT_.out (by kernel_rfl)) (fun _ _ _ h => h) (Or.inr ⟨by rfl, rfl⟩) ?_ ?_
           rotate_left
           ·simp only [Act.put, sz_, s0_, s1_, i64_w, i32_w]
            rfl
           refine pure_ (i := 19) (N := some 66) (v := undef) (a' := ?_) (flg_ 41 1048575) rfl rfl (any_of HT_.out (by kernel_rfl)) (fun _ _ _ h => h) (Or.inr ⟨by rfl, rfl⟩) ?_ ?_
           rotate_left
           ·simp only [Act.put, sz_, s0_, s1_, i64_w, i32_w]
            rfl
           refine pure_ (i := 20) (N := some 67) (v := undef) (a' := ?_) (flg_ 41 2097151) rfl rfl (any_of HT_.out (by kernel_rfl)) (fun _ _ _ h => h) (Or.inr ⟨by rfl, rfl⟩) ?_ ?_
           rotate_left
           ·simp only [Act.put, sz_, s0_, s1_, i64_w, i32_w]
            rfl
           refine pure_ (i := 21) (N := some 68) (v := undef) (a' := ?_) (flg_ 41 4194303) rfl rfl (any_of HT_.out (by kernel_rfl)) (fun _ _ _ h => h) (Or.inr ⟨by rfl, rfl⟩) ?_ ?_
           rotate_left
           ·simp only [Act.put, sz_, s0_, s1_, i64_w, i32_w]
            rfl
           refine pure_ (i := 22) (N := some 69) (v := undef) (a' := ?_) (flg_ 41 8388607) rfl rfl (any_of HT_.out (by kernel_rfl)) (fun _ _ _ h => h) (Or.inr ⟨by rfl, rfl⟩) ?_ ?_
           rotate_left
           ·simp only [Act.put, sz_, s0_, s1_, i64_w, i32_w]
            rfl
           refine pure_ (i := 23) (N := some 70) (v := undef) (a' := ?_) (flg_ 41 16777215) rfl rfl (any_of HT_.out (by kernel_rfl)) (fun _ _ _ h => h) (Or.inr ⟨by rfl, rfl⟩) ?_ ?_
           rotate_left
           ·simp only [Act.put, sz_, s0_, s1_, i64_w, i32_w]
            rfl
           refine pure_ (i := 24) (N := some 71) (v := undef) (a' := ?_) (flg_ 41 33554431) rfl rfl (any_of HT_.out (by kernel_rfl)) (fun _ _ _ h => h) (Or.inr ⟨by rfl, rfl⟩) ?_ ?_
           rotate_left
           ·simp only [Act.put, sz_, s0_, s1_, i64_w, i32_w]
            rfl
           refine pure_ (i := 25) (N := some 72) (v := undef) (a' := ?_) (flg_ 41 67108863) rfl rfl (any_of HT_.out (by kernel_rfl)) (fun _ _ _ h => h) (Or.inr ⟨by rfl, rfl⟩) ?_ ?_
           rotate_left
           ·simp only [Act.put, sz_, s0_, s1_, i64_w, i32_w]
            rfl
           refine pure_ (i := 26) (N := some 73) (v := undef) (a' := ?_) (flg_ 41 134217727) rfl rfl (any_of HT_.out (by kernel_rfl)) (fun _ _ _ h => h) (Or.inr ⟨by rfl, rfl⟩) ?_ ?_
           rotate_left
           ·simp only [Act.put, sz_, s0_, s1_, i64_w, i32_w]
            rfl
           refine pure_ (i := 27) (N := some 74) (v := undef) (a' := ?_) (flg_ 41 268435455) rfl rfl (any_of HT_.out (by kernel_rfl)) (fun _ _ _ h => h) (Or.inr ⟨by rfl, rfl⟩) ?_ ?_
           rotate_left
           ·simp only [Act.put, sz_, s0_, s1_, i64_w, i32_w]
            rfl
           refine pure_ (i := 28) (N := some 75) (v := undef) (a' := ?_) (flg_ 41 536870911) rfl rfl (any_of HT_.out (by kernel_rfl)) (fun _ _ _ h => h) (Or.inr ⟨by rfl, rfl⟩) ?_ ?_
           rotate_left
           ·simp only [Act.put, sz_, s0_, s1_, i64_w, i32_w]
            rfl
           refine pure_ (i := 29) (N := some 76) (v := undef) (a' := ?_) (flg_ 41 1073741823) rfl rfl (any_of HT_.out (by kernel_rfl)) (fun _ _ _ h => h) (Or.inr ⟨by rfl, rfl⟩) ?_ ?_
           rotate_left
           ·simp only [Act.put, sz_, s0_, s1_, i64_w, i32_w]
            rfl
           refine pure_ (i := 30) (N := some 77) (v := undef) (a' := ?_) (flg_ 41 2147483647) rfl rfl (any_of HT_.out (by kernel_rfl)) (fun _ _ _ h => h) (Or.inr ⟨by rfl, rfl⟩) ?_ ?_
           rotate_left
           ·simp only [Act.put, sz_, s0_, s1_, i64_w, i32_w]
            rfl
           refine pure_ (i := 31) (N := some 78) (v := undef) (a' := ?_) (flg_ 41 4294967295) rfl rfl (any_of HT_.out (by kernel_rfl)) (fun _ _ _ h => h) (Or.inr ⟨by rfl, rfl⟩) ?_ ?_
           rotate_left
           ·simp only [Act.put, sz_, s0_, s1_, i64_w, i32_w]
            rfl
           refine pure_ (i := 32) (N := some 79) (v := undef) (a' := ?_) (flg_ 41 8589934591) rfl rfl (any_of HT_.out (by kernel_rfl)) (fun _ _ _ h => h) (Or.inr ⟨by rfl, rfl⟩) ?_ ?_
           rotate_left
           ·simp only [Act.put, sz_, s0_, s1_, i64_w, i32_w]
            rfl
           refine pure_ (i := 33) (N := some 80) (v := undef) (a' := ?_) (flg_ 41 17179869183) rfl rfl (any_of HT_.out (by kernel_rfl)) (fun _ _ _ h => h) (Or.inr ⟨by rfl, rfl⟩) ?_ ?_
           rotate_left
           ·simp only [Act.put, sz_, s0_, s1_, i64_w, i32_w]
            rfl
           refine pure_ (i := 34) (N := some 81) (v := undef) (a' := ?_) (flg_ 41 34359738367) rfl rfl (any_of HT_.out (by kernel_rfl)) (fun _ _ _ h => h) (Or.inr ⟨by rfl, rfl⟩) ?_ ?_
           rotate_left
           ·simp only [Act.put, sz_, s0_, s1_, i64_w, i32_w]
            rfl
           refine pure_ (i := 35) (N := some 82) (v := undef) (a' := ?_) (flg_ 41 68719476735) rfl rfl (any_of HT_.out (by kernel_rfl)) (fun _ _ _ h => h) (Or.inr ⟨by rfl, rfl⟩) ?_ ?_
           rotate_left
           ·simp only [Act.put, sz_, s0_, s1_, i64_w, i32_w]
            rfl
           refine pure_ (i := 36) (N := some 83) (v := undef) (a' := ?_) (flg_ 41 137438953471) rfl rfl (any_of HT_.out (by kernel_rfl)) (fun _ _ _ h => h) (Or.inr ⟨by rfl, rfl⟩) ?_ ?_
           rotate_left
           ·simp only [Act.put, sz_, s0_, s1_, i64_w, i32_w]
            rfl
           refine pure_ (i := 37) (N := some 84) (v := undef) (a' := ?_) (flg_ 41 274877906943) rfl rfl (any_of HT_.out (by kernel_rfl)) (fun _ _ _ h => h) (Or.inr ⟨by rfl, rfl⟩) ?_ ?_
           rotate_left
           ·simp only [Act.put, sz_, s0_, s1_, i64_w, i32_w]
            rfl
           refine pure_ (i := 38) (N := some 85) (v := undef) (a' := ?_) (flg_ 41 549755813887) rfl rfl (any_of HT_.out (by kernel_rfl)) (fun _ _ _ h => h) (Or.inr ⟨by rfl, rfl⟩) ?_ ?_
           rotate_left
           ·simp only [Act.put, sz_, s0_, s1_, i64_w, i32_w]
            rfl
           refine pure_ (i := 39) (N := some 86) (v := undef) (a' := ?_) (flg_ 41 1099511627775) rfl rfl (any_of HT_.out (by kernel_rfl)) (fun _ _ _ h => h) (Or.inr ⟨by rfl, rfl⟩) ?_ ?_
           rotate_left
           ·simp only [Act.put, sz_, s0_, s1_, i64_w, i32_w]
            rfl
           refine pure_ (i := 40) (N := some 87) (v := ?_) (a' := ?_) (flg_ 41 2199023255551) rfl rfl (any_of HT_.out (by kernel_rfl)) (fun _ _ _ h => h) (Or.inl ⟨by rfl, ?_⟩) ?_ ?_
           rotate_left; (· (intro w'; go_simp; with_reducible rfl)); rotate_left; (· (simp only [Act.put, sz_, s0_, s1_, i64_w, i32_w]; rfl))
           refine done_ (done_of HT_.out (by kernel_rfl)) ?_
           try go_wp2
           go_ret
           exact ⟨by first | rfl | (simp [errW_none, errW_some] <;> rfl) | (simp [*, errW_none, errW_some] <;> rfl), by repeat (first | (with_reducible first | exact HB.out | apply below_alloc | apply pw_below_drewN | apply below_drew1 | refine below_set ?_ GE175.out) | exact HB.out)⟩
      ·rw [if_neg c8] at H
       exact absurd H (by simp)
     ·rw [if_neg c7] at H
      exact absurd H (by simp)
    ·rw [if_neg c6] at H
     have c6b0 : decide (x6_1 < (l1.length : Int)) = false := decide_eq_false c6
     clear c6
     obtain rfl := Option.some.inj H
     go_wp2
     go_ret
     exact ⟨by first | rfl | (simp [errW_none, errW_some] <;> rfl) | (simp [*, errW_none, errW_some] <;> rfl), by repeat (first | (with_reducible first | exact HB.out | apply below_alloc | apply pw_below_drewN | apply below_drew1 | refine below_set ?_ GE175.out) | exact HB.out)⟩
 ·rw [if_neg c3] at H
  have c3b0 : ((l1.length : Int) == (l0_2.length : Int)) = false := beq_eq_false_iff_ne.mpr c3
  have c3b1 : ((l1.length : Int) != (l0_2.length : Int)) = true := bne_iff_ne.mpr c3
  have c3b2 : (l1.length == l0_2.length) = false := by first | simpa using c3 | (simp at c3 ⊢; omega)
  obtain rfl := Option.some.inj H
  go_enter Tryd.func22, Tryd.ntmps22
  go_wp2_with (first | ((with_reducible refine gate_dst (N := 2) rfl ?_); refine box_event ?hg (N := 2) ?hd (cs := #[.int .i64 a0_0, .int .i64 a0_1, .slice A0_2 l0_2.length c0_2]) (t := 28) ?hr ?_; (case hd => rfl); (case hg => rfl); (case hr => first | (go_simp; done) | (go_simp; rfl)); intro gb175 hg w45 hbox hb; have n0_ := Aside0.mk (below_step hb_ hb); have n1_ := Aside0.mk (hbox); have n2_ := Aside0.mk ((by rw [hg]; exact (below_size hb_) : w.heap.size ≤ gb175)); have n3_ := Aside0.mk ((by rw [hg]; exact (below_size hb_) : w.heap.size ≤ gb175)); clear HB; have HB := n0_; have BK175 := n1_; have GW175 := n2_; have GE175 := n3_; clear n0_ n1_ n2_ n3_; clear hb hbox hg; have hcz46_0 : w45.cell? ⟨gb175, 0, none⟩ = some (.int .i64 a0_0) := (blk_cell BK175.out 0).trans rfl; have hcz46_1 : w45.cell? ⟨gb175, 1, none⟩ = some (.int .i64 a0_1) := (blk_cell BK175.out 1).trans rfl; have hcz46_2 : w45.cell? ⟨gb175, 2, none⟩ = some (.slice A0_2 l0_2.length c0_2) := (blk_cell BK175.out 2).trans rfl; have hfz46_0 := blk_frozen BK175.out 0; have hfz46_1 := blk_frozen BK175.out 1; have hfz46_2 := blk_frozen BK175.out 2))
  go_ret
  exact ⟨by first | rfl | (simp [errW_none, errW_some] <;> rfl) | (simp [*, errW_none, errW_some] <;> rfl), by repeat (first | (with_reducible first | exact HB.out | apply below_alloc | apply pw_below_drewN | apply below_drew1 | refine below_set ?_ GE175.out) | exact HB.out)⟩
/-! ### spec_l09Text: function 23 -/
mutual
def spec_l09Text.l0 : Nat → List Int → ByteArray → Int → Int → Int → List Int → Option (ByteArray)
 | 0, _, _, _, _, _, _ => none
 | k + 1, x1, x5, x6, x191000, x191001, x191002 => if x6 < (wrap64 (x191000 * x191001)) then (if x6 > 0 then (if x191000 = 0 then (none) else (spec_l09Text.j1 k x1 x5 x6 ((Int.tmod x6 x191000) == 0) x191000 x191001 x191002)) else (spec_l09Text.j1 k x1 x5 x6 false x191000 x191001 x191002)) else (some x5)
def spec_l09Text.j1 : Nat → List Int → ByteArray → Int → Bool → Int → Int → List Int → Option (ByteArray)
 | 0, _, _, _, _, _, _, _ => none
 | k + 1, x1, x5, x6, x26, x191000, x191001, x191002 => if x26 = true then (if x5.size + 1 ≤ 9223372036854775807 then (spec_l09Text.j2 k x1 (x5 ++ (⟨#[47]⟩ : ByteArray)) x6 x191000 x191001 x191002) else (none)) else (spec_l09Text.j2 k x1 x5 x6 x191000 x191001 x191002)
def spec_l09Text.j2 : Nat → List Int → ByteArray → Int → Int → Int → List Int → Option (ByteArray)
 | 0, _, _, _, _, _, _ => none
 | k + 1, x1, x5, x6, x191000, x191001, x191002 => spec_l09Text.l1 k x1 x5 x6 (⟨#[46]⟩ : ByteArray) 0 x191000 x191001 x191002
def spec_l09Text.l1 : Nat → List Int → ByteArray → Int → ByteArray → Int → Int → Int → List Int → Option (ByteArray)
 | 0, _, _, _, _, _, _, _, _ => none
 | k + 1, x1, x5, x6, x7, x8, x191000, x191001, x191002 => if x8 < (x1.length : Int) then (if 0 ≤ x8 then (if 0 ≤ (IntKind.u64.wrap (x6)) then (if (Go.bits .and .i64 (shr .i64 (rd x1 x8) (IntKind.u64.wrap (x6))) 1) = 1 then (spec_l09Text.l1 k x1 x5 x6 (strOfNums (([(wrap64 (97 + x8)) % 256] : List Int))) (wrap64 (x8 + 1)) x191000 x191001 x191002) else (spec_l09Text.l1 k x1 x5 x6 x7 (wrap64 (x8 + 1)) x191000 x191001 x191002)) else (none)) else (none)) else (if x5.size + x7.size ≤ 9223372036854775807 then (spec_l09Text.l0 k x1 (x5 ++ x7) (wrap64 (x6 + 1)) x191000 x191001 x191002) else (none))
end
def spec_l09Text.f (k : Nat) (a0_0 : Int) (a0_1 : Int) (l0_2 : List Int) (l1 : List Int) : Option (ByteArray) := spec_l09Text.l0 k l1 (⟨#[]⟩ : ByteArray) 0 a0_0 a0_1 l0_2
set_option maxHeartbeats 8000000 in
set_option maxRecDepth 100000 in
theorem spec_l09Text.calls (k : Nat) (a0_0 : Int) (a0_1 : Int) (A0_2 : Option Addr) (c0_2 : Nat) (l0_2 : List Int) (A1 : Option Addr) (c1 : Nat) (l1 : List Int) (r : ByteArray) (w : World) (hr0_2 : Kd.C (Kd.int .i64) w A0_2 l0_2.length l0_2) (hc0_2 : l0_2.length ≤ c0_2) (hr1 : Kd.C (Kd.int .i64) w A1 l1.length l1) (hc1 : l1.length ≤ c1) (h : spec_l09Text.f k a0_0 a0_1 l0_2 l1 = some r) :
  Calls Tryd.prog 23 #[.agg #[.int .i64 a0_0, .int .i64 a0_1, .slice A0_2 l0_2.length c0_2], .slice A1 l1.length c1] w fun e w' => e = .returned (.string r) ∧ Below w.heap.size w w' := by
 have hu28 := Tryd.underlying28
 have HR0_2 := Aside0.mk hr0_2
 have HC0_2 := Aside0.mk hc0_2
 clear hr0_2 hc0_2
 have HR1 := Aside0.mk hr1
 have HC1 := Aside0.mk hc1
 clear hr1 hc1
 have HB := Aside0.mk (Below.refl w.heap.size w)
 have H : (spec_l09Text.l0 k l1 (⟨#[]⟩ : ByteArray) 0 a0_0 a0_1 l0_2) = some r := h
 clear h
 have H' := Aside0.mk H
 clear H
 go_enter Tryd.func23, Tryd.ntmps23
 go_wp2_with (first | ((with_reducible refine gate_dst (N := 2) rfl ?_); refine box_event ?hg (N := 2) ?hd (cs := #[.int .i64 a0_0, .int .i64 a0_1, .slice A0_2 l0_2.length c0_2]) (t := 28) ?hr ?_; (case hd => rfl); (case hg => rfl); (case hr => first | (go_simp; done) | (go_simp; rfl)); intro gb190 hg w3 hbox hb; have n0_ := Aside0.mk (below_step hb_ hb); have n1_ := Aside0.mk (hbox); have n2_ := Aside0.mk ((by rw [hg]; exact (below_size hb_) : w.heap.size ≤ gb190)); have n3_ := Aside0.mk ((by rw [hg]; exact (below_size hb_) : w.heap.size ≤ gb190)); clear HB; have HB := n0_; have BK190 := n1_; have GW190 := n2_; have GE190 := n3_; clear n0_ n1_ n2_ n3_; clear hb hbox hg))
 go_loopg [5, 6] k (fun kq v5 v6 w' => ∃ (x5_1 : ByteArray) (x6_1 : Int), v5 = .string x5_1 ∧ v6 = .int .i64 x6_1 ∧ Aside0 (spec_l09Text.l0 kq l1 x5_1 x6_1 a0_0 a0_1 l0_2 = some r) ∧ Aside0 (kq ≤ k) ∧ Aside0 (w'.heap[gb190]? = some (.cells #[.int .i64 a0_0, .int .i64 a0_1, (.slice A0_2 l0_2.length c0_2)] 28 (0, 0))) ∧ Aside0 (Below w.heap.size w w'))
 case atStart => exact ⟨((⟨#[]⟩ : ByteArray)), (0), (by first | rfl | (simp; done) | (simp [*]; done)), (by first | rfl | (simp; done) | (simp [*]; done)), H', ⟨Nat.le_refl _⟩, ⟨by (with_reducible repeat (first | refine blk_drewN ?_ _ | refine blk_drew ?_ | refine blk_alloc ?_ _)); exact BK190.out⟩, ⟨by repeat (first | (with_reducible first | exact HB.out | apply below_alloc | apply pw_below_drewN | apply below_drew1 | refine below_set ?_ GE190.out) | exact HB.out)⟩⟩
 case round =>
  clear H'
  (try clear c1); (try clear c2); (try clear p2)
  obtain ⟨x5_1, x6_1, rfl, rfl, HA, HK1, BK190, HB⟩ := hrel
  cases gk with
  | zero => exact absurd HA.out (by simp [spec_l09Text.l0])
  | succ k1 =>
   have H := HA.out
   clear HA
   simp only [spec_l09Text.l0] at H
   by_cases c4 : x6_1 < (wrap64 (a0_0 * a0_1))
   ·rw [if_pos c4] at H
    have c4b0 : decide (x6_1 < (wrap64 (a0_0 * a0_1))) = true := decide_eq_true c4
    clear c4
    have HC5 := Aside0.mk H
    clear H
    have hcz6_0 : wr.cell? ⟨gb190, 0, none⟩ = some (.int .i64 a0_0) := (blk_cell BK190.out 0).trans rfl
    have hcz6_1 : wr.cell? ⟨gb190, 1, none⟩ = some (.int .i64 a0_1) := (blk_cell BK190.out 1).trans rfl
    have hcz6_2 : wr.cell? ⟨gb190, 2, none⟩ = some (.slice A0_2 l0_2.length c0_2) := (blk_cell BK190.out 2).trans rfl
    have hfz6_0 := blk_frozen BK190.out 0
    have hfz6_1 := blk_frozen BK190.out 1
    have hfz6_2 := blk_frozen BK190.out 2
    go_upto_region 5 with (fail)
    go_cut [26] (fun v26 wc => ∃ (kq : Nat) (x26_4 : Bool), v26 = .bool x26_4 ∧ Aside0 (spec_l09Text.j1 kq l1 x5_1 x6_1 x26_4 a0_0 a0_1 l0_2 = some r) ∧ Aside0 (kq ≤ k1) ∧ Aside0 (wc.heap[gb190]? = some (.cells #[.int .i64 a0_0, .int .i64 a0_1, (.slice A0_2 l0_2.length c0_2)] 28 (0, 0))) ∧ Aside0 (Below w.heap.size w wc))
    case first =>
     have H := HC5.out
     clear HC5
     by_cases c7 : x6_1 > 0
     ·rw [if_pos c7] at H
      have c7b0 : decide (0 < x6_1) = true := decide_eq_true c7
      clear c7
      (first | rw [c7b0] | (simp only [i64_w, i32_w]; rw [c7b0]) | skip)
      by_cases c8 : a0_0 = 0
      ·rw [if_pos c8] at H
       exact absurd H (by simp)
      ·rw [if_neg c8] at H
       have c8b0 : (a0_0 == 0) = false := beq_eq_false_iff_ne.mpr c8
       have c8b1 : (a0_0 != 0) = true := bne_iff_ne.mpr c8
       have H' := Aside0.mk H
       clear H
       have hcz9_0 : wr.cell? ⟨gb190, 0, none⟩ = some (.int .i64 a0_0) := (blk_cell BK190.out 0).trans rfl
       have hcz9_1 : wr.cell? ⟨gb190, 1, none⟩ = some (.int .i64 a0_1) := (blk_cell BK190.out 1).trans rfl
       have hcz9_2 : wr.cell? ⟨gb190, 2, none⟩ = some (.slice A0_2 l0_2.length c0_2) := (blk_cell BK190.out 2).trans rfl
       have hfz9_0 := blk_frozen BK190.out 0
       have hfz9_1 := blk_frozen BK190.out 1
       have hfz9_2 := blk_frozen BK190.out 2
       go_wp2
       go_meet
       case rel => exact ⟨_, (((Int.tmod x6_1 a0_0) == 0)), (by first | rfl | (simp; done) | (simp [*]; done)), H', ⟨by have := HK1.out; first | omega | exact Nat.le_refl _⟩, ⟨by (with_reducible repeat (first | refine blk_drewN ?_ _ | refine blk_drew ?_ | refine blk_alloc ?_ _)); exact BK190.out⟩, ⟨by repeat (first | (with_reducible first | exact HB.out | apply below_alloc | apply pw_below_drewN | apply below_drew1 | refine below_set ?_ GE190.out) | exact HB.out)⟩⟩
     ·rw [if_neg c7] at H
      have c7b0 : decide (0 < x6_1) = false := decide_eq_false c7
      clear c7
      (first | rw [c7b0] | (simp only [i64_w, i32_w]; rw [c7b0]) | skip)
      have H' := Aside0.mk H
      clear H
      go_wp2
      go_meet
      case rel => exact ⟨_, (false), (by first | rfl | (simp; done) | (simp [*]; done)), H', ⟨by have := HK1.out; first | omega | exact Nat.le_refl _⟩, ⟨by (with_reducible repeat (first | refine blk_drewN ?_ _ | refine blk_drew ?_ | refine blk_alloc ?_ _)); exact BK190.out⟩, ⟨by repeat (first | (with_reducible first | exact HB.out | apply below_alloc | apply pw_below_drewN | apply below_drew1 | refine below_set ?_ GE190.out) | exact HB.out)⟩⟩
    case rest =>
     clear HC5
     (try clear c1); (try clear c2); (try clear p2); (try clear c4); (try clear c4b0); (try clear p6); (try clear c7); (try clear c7b0); (try clear c8); (try clear c8b0); (try clear c8b1); (try clear hcz6_0); (try clear hcz6_1); (try clear hcz6_2); (try clear hcz9_0); (try clear hcz9_1); (try clear hcz9_2); (try clear hfz6_0); (try clear hfz6_1); (try clear hfz6_2); (try clear hfz9_0); (try clear hfz9_1); (try clear hfz9_2); (try clear p2)
     obtain ⟨kq, x26_4, rfl, HA, HJ4, BK190, HB⟩ := hcut
     cases kq with
     | zero => exact absurd HA.out (by simp [spec_l09Text.j1])
     | succ kj4 =>
      have H := HA.out
      clear HA
      simp only [spec_l09Text.j1] at H
      have HC10 := Aside0.mk H
      clear H
      go_upto_if 26 with (fail)
      go_cut [5] (fun v5 wc => ∃ (kq : Nat) (x5_9 : ByteArray), v5 = .string x5_9 ∧ Aside0 (spec_l09Text.j2 kq l1 x5_9 x6_1 a0_0 a0_1 l0_2 = some r) ∧ Aside0 (kq ≤ kj4) ∧ Aside0 (wc.heap[gb190]? = some (.cells #[.int .i64 a0_0, .int .i64 a0_1, (.slice A0_2 l0_2.length c0_2)] 28 (0, 0))) ∧ Aside0 (Below w.heap.size w wc))
      case first =>
       have H := HC10.out
       clear HC10
       by_cases c11 : x26_4 = true
       ·subst c11
        have H1 : (if x5_1.size + 1 ≤ 9223372036854775807 then (spec_l09Text.j2 kj4 l1 (x5_1 ++ (⟨#[47]⟩ : ByteArray)) x6_1 a0_0 a0_1 l0_2) else (none)) = some r := by rw [if_pos rfl] at H; exact H
        clear H
        have H := H1
        clear H1
        by_cases c12 : x5_1.size + 1 ≤ 9223372036854775807
        ·rw [if_pos c12] at H
         have c12b0 := eq_true c12
         have c12b1 : decide (x5_1.size + 1 ≤ 9223372036854775807) = true := decide_eq_true c12
         try have c12b2 : (9223372036854775807 < x5_1.size + 1) = False := eq_false (Nat.not_lt.2 c12)
         have H' := Aside0.mk H
         clear H
         go_wp2
         go_meet
         case rel => exact ⟨_, (x5_1 ++ (⟨#[47]⟩ : ByteArray)), (by first | rfl | (simp; done) | (simp [*]; done)), H', ⟨by have := HK1.out; have := HJ4.out; first | omega | exact Nat.le_refl _⟩, ⟨by (with_reducible repeat (first | refine blk_drewN ?_ _ | refine blk_drew ?_ | refine blk_alloc ?_ _)); exact BK190.out⟩, ⟨by repeat (first | (with_reducible first | exact HB.out | apply below_alloc | apply pw_below_drewN | apply below_drew1 | refine below_set ?_ GE190.out) | exact HB.out)⟩⟩
        ·rw [if_neg c12] at H
         exact absurd H (by simp)
       ·replace c11 := Bool.eq_false_iff.mpr c11
        subst c11
        have H1 : (spec_l09Text.j2 kj4 l1 x5_1 x6_1 a0_0 a0_1 l0_2) = some r := by rw [if_neg (show ¬ (false = true) by decide)] at H; exact H
        clear H
        have H := H1
        clear H1
        have H' := Aside0.mk H
        clear H
        go_wp2
        go_meet
        case rel => exact ⟨_, (x5_1), (by first | rfl | (simp; done) | (simp [*]; done)), H', ⟨by have := HK1.out; have := HJ4.out; first | omega | exact Nat.le_refl _⟩, ⟨by (with_reducible repeat (first | refine blk_drewN ?_ _ | refine blk_drew ?_ | refine blk_alloc ?_ _)); exact BK190.out⟩, ⟨by repeat (first | (with_reducible first | exact HB.out | apply below_alloc | apply pw_below_drewN | apply below_drew1 | refine below_set ?_ GE190.out) | exact HB.out)⟩⟩
      case rest =>
       clear HC10
       (try clear c1); (try clear c2); (try clear p2); (try clear c4); (try clear c4b0); (try clear p6); (try clear c7); (try clear c7b0); (try clear c8); (try clear c8b0); (try clear c8b1); (try clear c11); (try clear c12); (try clear c12b0); (try clear c12b1); (try clear c12b2); (try clear hcz6_0); (try clear hcz6_1); (try clear hcz6_2); (try clear hcz9_0); (try clear hcz9_1); (try clear hcz9_2); (try clear hfz6_0); (try clear hfz6_1); (try clear hfz6_2); (try clear hfz9_0); (try clear hfz9_1); (try clear hfz9_2); (try clear p2); (try clear p6)
       obtain ⟨kq, x5_9, rfl, HA, HJ9, BK190, HB⟩ := hcut
       cases kq with
       | zero => exact absurd HA.out (by simp [spec_l09Text.j2])
       | succ kj9 =>
        have H := HA.out
        clear HA
        simp only [spec_l09Text.j2] at H
        have H' := Aside0.mk H
        clear H
        go_wp2
        go_loopg [7, 8] kj9 (fun kq v7 v8 w' => ∃ (x7_4 : ByteArray) (x8_4 : Int), v7 = .string x7_4 ∧ v8 = .int .i64 x8_4 ∧ Aside0 (spec_l09Text.l1 kq l1 x5_9 x6_1 x7_4 x8_4 a0_0 a0_1 l0_2 = some r) ∧ Aside0 (kq ≤ kj9) ∧ Aside0 (w'.heap[gb190]? = some (.cells #[.int .i64 a0_0, .int .i64 a0_1, (.slice A0_2 l0_2.length c0_2)] 28 (0, 0))) ∧ Aside0 (Below w.heap.size w w'))
        case atStart => exact ⟨((⟨#[46]⟩ : ByteArray)), (0), (by first | rfl | (simp; done) | (simp [*]; done)), (by first | rfl | (simp; done) | (simp [*]; done)), H', ⟨Nat.le_refl _⟩, ⟨by (with_reducible repeat (first | refine blk_drewN ?_ _ | refine blk_drew ?_ | refine blk_alloc ?_ _)); exact BK190.out⟩, ⟨by repeat (first | (with_reducible first | exact HB.out | apply below_alloc | apply pw_below_drewN | apply below_drew1 | refine below_set ?_ GE190.out) | exact HB.out)⟩⟩
        case round =>
         clear H'
         (try clear c1); (try clear c2); (try clear p2); (try clear c4); (try clear c4b0); (try clear p6); (try clear c7); (try clear c7b0); (try clear c8); (try clear c8b0); (try clear c8b1); (try clear c11); (try clear c12); (try clear c12b0); (try clear c12b1); (try clear c12b2); (try clear hcz6_0); (try clear hcz6_1); (try clear hcz6_2); (try clear hcz9_0); (try clear hcz9_1); (try clear hcz9_2); (try clear hfz6_0); (try clear hfz6_1); (try clear hfz6_2); (try clear hfz9_0); (try clear hfz9_1); (try clear hfz9_2); (try clear p2); (try clear p6)
         obtain ⟨x7_4, x8_4, rfl, rfl, HA, HK4, BK190, HB⟩ := hrel
         cases gk with
         | zero => exact absurd HA.out (by simp [spec_l09Text.l1])
         | succ k4 =>
          have H := HA.out
          clear HA
          simp only [spec_l09Text.l1] at H
          by_cases c13 : x8_4 < (l1.length : Int)
          ·rw [if_pos c13] at H
           have c13b0 : decide (x8_4 < (l1.length : Int)) = true := decide_eq_true c13
           clear c13
           by_cases c14 : 0 ≤ x8_4
           ·rw [if_pos c14] at H
            have c14b0 : decide (0 ≤ x8_4) = true := decide_eq_true c14
            clear c14
            obtain ⟨ji15, hji15⟩ : ∃ j_ : Int, (IntKind.u64.wrap (x6_1)) = j_ := ⟨_, rfl⟩
            replace H : (if 0 ≤ (ji15) then (if (Go.bits .and .i64 (shr .i64 (rd l1 x8_4) (ji15)) 1) = 1 then (spec_l09Text.l1 k4 l1 x5_9 x6_1 (strOfNums (([(wrap64 (97 + x8_4)) % 256] : List Int))) (wrap64 (x8_4 + 1)) a0_0 a0_1 l0_2) else (spec_l09Text.l1 k4 l1 x5_9 x6_1 x7_4 (wrap64 (x8_4 + 1)) a0_0 a0_1 l0_2)) else (none)) = some r := by first | (rw [hji15] at H; exact H) | (simp only [hji15] at H ⊢; exact H)
            by_cases c16 : 0 ≤ (ji15)
            ·rw [if_pos c16] at H
             have c16b0 := eq_true c16
             have c16b1 : decide (0 ≤ (ji15)) = true := decide_eq_true c16
             clear c16
             obtain ⟨ji17, hji17⟩ : ∃ j_ : Int, (shr .i64 (rd l1 x8_4) (ji15)) = j_ := ⟨_, rfl⟩
             replace H : (if (Go.bits .and .i64 (ji17) 1) = 1 then (spec_l09Text.l1 k4 l1 x5_9 x6_1 (strOfNums (([(wrap64 (97 + x8_4)) % 256] : List Int))) (wrap64 (x8_4 + 1)) a0_0 a0_1 l0_2) else (spec_l09Text.l1 k4 l1 x5_9 x6_1 x7_4 (wrap64 (x8_4 + 1)) a0_0 a0_1 l0_2)) = some r := by first | (rw [hji17] at H; exact H) | (simp only [hji17] at H ⊢; exact H)
             have hji17_ : ((rd l1 x8_4) / 2 ^ min (ji15).toNat 64) = ji17 := hji17
             have hji17z : (ji15) ≤ 64 → ((rd l1 x8_4) / 2 ^ (ji15).toNat) = ji17 := shr_small hji17
             by_cases c18 : (Go.bits .and .i64 (ji17) 1) = 1
             ·rw [if_pos c18] at H
              have c18b0 : ((Go.bits .and .i64 (ji17) 1) == 1) = true := beq_iff_eq.mpr c18
              have c18b1 : ((Go.bits .and .i64 (ji17) 1) != 1) = false := bne_eq_false_iff_eq.mpr c18
              clear c18
              obtain ⟨y192, hy192⟩ : ∃ y_ : List Int, y_ = (([(wrap64 (97 + x8_4)) % 256] : List Int)) := ⟨_, rfl⟩
              replace H : (spec_l09Text.l1 k4 l1 x5_9 x6_1 (strOfNums y192) (wrap64 (x8_4 + 1)) a0_0 a0_1 l0_2) = some r := by first | (rw [hy192]; with_reducible exact H) | (have H2_ := (Option.bind_some _ _).symm.trans H; rw [hy192]; with_reducible exact H2_) | (have H2_ := (Option.bind_some _ _).symm.trans H; with_reducible exact H2_) | with_reducible exact H | (rw [hy192]; exact H) | exact H
              have Ny192 := Aside0.mk hy192
              clear hy192
              have H' := Aside0.mk H
              clear H
              have p191 : 0 ≤ (x8_4 : Int) := oda
              have q191 : x8_4 < (l1.length : Int) := oda
              obtain ⟨ad191, e191, hx191_0⟩ := Kd.at_int HR1.out x8_4 p191 q191
              cases e191
              replace hx191_0 := (HB.out.cell (World.block_lt_of_cell? w _ hx191_0)).trans hx191_0
              replace p191 := eq_true p191
              replace q191 := eq_true q191
              go_wp2_with (first | ((with_reducible refine gate_dst (N := 47) rfl ?_); refine Kd.R_lit (Kd.int .u8) _ 5 ?hg (N := 47) ?hd (xs := ([(wrap64 (97 + x8_4)) % 256] : List Int)) (inner := [.int .u8 ((wrap64 (97 + x8_4)) % 256)]) (ok := fun _ => True) (okp := fun _ => True) ?hr ?hp (fun _ hk => hk) trivial (Below.refl _ _) (Nat.le_refl _) (by simp) ?_; (case hd => rfl); (case hg => rfl); (case hr => first | (go_simp; done) | (go_simp; rfl)); (case hp => exact (Reps.one (show Kd.M (Kd.int .u8) _ _ _ ((wrap64 (97 + x8_4)) % 256) [.int .u8 ((wrap64 (97 + x8_4)) % 256)] from rfl) (Reps.none _ _))); intro v193 w19 ho20 hb hg_ hnew_; clear hg_ hnew_; (first | rw [← Ny192.out] at ho20 | (simp only [Int.reduceToNat] at ho20; rw [← Ny192.out] at ho20)); have n0_ := Aside0.mk (Kd.R_lower ho20 (below_size (by repeat (first | (with_reducible first | exact HB.out | apply below_alloc | apply pw_below_drewN | apply below_drew1 | refine below_set ?_ GE190.out) | exact HB.out)))); have n1_ := Aside0.mk (blk_below (g := gb190) (o := .cells #[.int .i64 a0_0, .int .i64 a0_1, .slice A0_2 l0_2.length c0_2] 28 (0, 0)) (by (with_reducible repeat (first | refine blk_drewN ?_ _ | refine blk_drew ?_ | refine blk_alloc ?_ _)); exact BK190.out) hb); have n2_ := Aside0.mk (below_step (by repeat (first | (with_reducible first | exact HB.out | apply below_alloc | apply pw_below_drewN | apply below_drew1 | refine below_set ?_ GE190.out) | exact HB.out)) hb); clear BK190; clear HB; have HO194 := n0_; have BK190 := n1_; have HB := n2_; clear n0_ n1_ n2_; clear hb ho20; have hcv21 := own_string (P := Tryd.prog) Tryd.underlying51 Tryd.underlying5 Tryd.underlying9 (Kd.own_of_R HO194.out)))
              go_roundg k4
              case measure => have := HK1.out; have := HJ4.out; have := HJ9.out; have := HK4.out; omega
              case rel => exact ⟨(strOfNums y192), (wrap64 (x8_4 + 1)), (by first | rfl | (simp; done) | (simp [*]; done)), (by first | rfl | (simp; done) | (simp [*]; done)), H', ⟨by have := HK1.out; have := HJ4.out; have := HJ9.out; have := HK4.out; omega⟩, ⟨by (with_reducible repeat (first | refine blk_drewN ?_ _ | refine blk_drew ?_ | refine blk_alloc ?_ _)); exact BK190.out⟩, ⟨by repeat (first | (with_reducible first | exact HB.out | apply below_alloc | apply pw_below_drewN | apply below_drew1 | refine below_set ?_ GE190.out) | exact HB.out)⟩⟩
             ·rw [if_neg c18] at H
              have c18b0 : ((Go.bits .and .i64 (ji17) 1) == 1) = false := beq_eq_false_iff_ne.mpr c18
              have c18b1 : ((Go.bits .and .i64 (ji17) 1) != 1) = true := bne_iff_ne.mpr c18
              have H' := Aside0.mk H
              clear H
              have p191 : 0 ≤ (x8_4 : Int) := oda
              have q191 : x8_4 < (l1.length : Int) := oda
              obtain ⟨ad191, e191, hx191_0⟩ := Kd.at_int HR1.out x8_4 p191 q191
              cases e191
              replace hx191_0 := (HB.out.cell (World.block_lt_of_cell? w _ hx191_0)).trans hx191_0
              replace p191 := eq_true p191
              replace q191 := eq_true q191
              go_wp2
              go_roundg k4
              case measure => have := HK1.out; have := HJ4.out; have := HJ9.out; have := HK4.out; omega
              case rel => exact ⟨(x7_4), (wrap64 (x8_4 + 1)), (by first | rfl | (simp; done) | (simp [*]; done)), (by first | rfl | (simp; done) | (simp [*]; done)), H', ⟨by have := HK1.out; have := HJ4.out; have := HJ9.out; have := HK4.out; omega⟩, ⟨by (with_reducible repeat (first | refine blk_drewN ?_ _ | refine blk_drew ?_ | refine blk_alloc ?_ _)); exact BK190.out⟩, ⟨by repeat (first | (with_reducible first | exact HB.out | apply below_alloc | apply pw_below_drewN | apply below_drew1 | refine below_set ?_ GE190.out) | exact HB.out)⟩⟩
            ·rw [if_neg c16] at H
             exact absurd H (by simp)
           ·rw [if_neg c14] at H
            exact absurd H (by simp)
          ·rw [if_neg c13] at H
           have c13b0 : decide (x8_4 < (l1.length : Int)) = false := decide_eq_false c13
           clear c13
           by_cases c22 : x5_9.size + x7_4.size ≤ 9223372036854775807
           ·rw [if_pos c22] at H
            have c22b0 := eq_true c22
            have c22b1 : decide (x5_9.size + x7_4.size ≤ 9223372036854775807) = true := decide_eq_true c22
            try have c22b2 : (9223372036854775807 < x5_9.size + x7_4.size) = False := eq_false (Nat.not_lt.2 c22)
            have H' := Aside0.mk H
            clear H
            go_wp2
            go_roundg k4
            case measure => have := HK1.out; have := HJ4.out; have := HJ9.out; have := HK4.out; omega
            case rel => exact ⟨(x5_9 ++ x7_4), (wrap64 (x6_1 + 1)), (by first | rfl | (simp; done) | (simp [*]; done)), (by first | rfl | (simp; done) | (simp [*]; done)), H', ⟨by have := HK1.out; have := HJ4.out; have := HJ9.out; have := HK4.out; omega⟩, ⟨by (with_reducible repeat (first | refine blk_drewN ?_ _ | refine blk_drew ?_ | refine blk_alloc ?_ _)); exact BK190.out⟩, ⟨by repeat (first | (with_reducible first | exact HB.out | apply below_alloc | apply pw_below_drewN | apply below_drew1 | refine below_set ?_ GE190.out) | exact HB.out)⟩⟩
           ·rw [if_neg c22] at H
            exact absurd H (by simp)
   ·rw [if_neg c4] at H
    have c4b0 : decide (x6_1 < (wrap64 (a0_0 * a0_1))) = false := decide_eq_false c4
    clear c4
    obtain rfl := Option.some.inj H
    have hcz23_0 : wr.cell? ⟨gb190, 0, none⟩ = some (.int .i64 a0_0) := (blk_cell BK190.out 0).trans rfl
    have hcz23_1 : wr.cell? ⟨gb190, 1, none⟩ = some (.int .i64 a0_1) := (blk_cell BK190.out 1).trans rfl
    have hcz23_2 : wr.cell? ⟨gb190, 2, none⟩ = some (.slice A0_2 l0_2.length c0_2) := (blk_cell BK190.out 2).trans rfl
    have hfz23_0 := blk_frozen BK190.out 0
    have hfz23_1 := blk_frozen BK190.out 1
    have hfz23_2 := blk_frozen BK190.out 2
    go_wp2
    go_ret
    exact ⟨by first | rfl | (simp [errW_none, errW_some] <;> rfl) | (simp [*, errW_none, errW_some] <;> rfl), by repeat (first | (with_reducible first | exact HB.out | apply below_alloc | apply pw_below_drewN | apply below_drew1 | refine below_set ?_ GE190.out) | exact HB.out)⟩

end Go.Proofs.YthmfpdkemkjpkaaDoor.F
