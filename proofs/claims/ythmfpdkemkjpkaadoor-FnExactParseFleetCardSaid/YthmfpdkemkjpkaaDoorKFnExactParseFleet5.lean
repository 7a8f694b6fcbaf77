-- written by the session's program xp.py over the kit's print program, and by hand; texts joined by pack.py
import Derived.Test.YthmfpdkemkjpkaaDoorKFnExactParseFleet4
namespace Go.Proofs.YthmfpdkemkjpkaaDoor.F
open Go.RowKit Go.Proofs.YthmfpdkemkjpkaaDoorW.PrintWords Go.Proofs.YthmfpdkemkjpkaaDoorW.PrintLast Go.Proofs.YthmfpdkemkjpkaaDoorW.PrintMore
attribute [local go_sem] max2_int min2_int max_two min_two max_three min_three max_four min_four   -- for this text's walks alone
set_option linter.unusedVariables false
set_option linter.unusedSimpArgs false

/-! ### spec_l09Read: function 15 -/
mutual
def spec_l09Read.l0 : Nat → ByteArray → List ByteArray → List Int → Int → Int → Int → List Int → Option (List Int × Bool)
 | 0, _, _, _, _, _, _, _ => none
 | k + 1, x1, x6, x7, x8, x196000, x196001, x196002 => if x8 < x196001 then (if 0 ≤ x8 then (if x8 < (x6.length : Int) then (if ((rdOf ByteArray.empty x6 x8).size : Int) = x196000 then (spec_l09Read.l1 k x1 x6 x7 x8 0 x196000 x196001 x196002) else (some (([] : List Int), false))) else (none)) else (none)) else ((spec_l09Fleet.f k x196000 x196001 x196002 x7).bind fun t202 => (if t202 = true then ((spec_l09Text.f k x196000 x196001 x196002 x7).bind fun t203 => (some (x7, (t203.toList == x1.toList)))) else (some (x7, false))))
def spec_l09Read.l1 : Nat → ByteArray → List ByteArray → List Int → Int → Int → Int → Int → List Int → Option (List Int × Bool)
 | 0, _, _, _, _, _, _, _, _ => none
 | k + 1, x1, x6, x7, x8, x9, x196000, x196001, x196002 => if x9 < x196000 then (if 0 ≤ x8 then (if x8 < (x6.length : Int) then (if 0 ≤ x9 then (if x9 < ((rdOf ByteArray.empty x6 x8).size : Int) then (if (wrap64 ((wrap64 (bt (rdOf ByteArray.empty x6 x8) x9)) - 97)) ≥ 0 then (if (wrap64 ((wrap64 (bt (rdOf ByteArray.empty x6 x8) x9)) - 97)) < (x7.length : Int) then (if 0 ≤ (wrap64 ((wrap64 (bt (rdOf ByteArray.empty x6 x8) x9)) - 97)) then (if 0 ≤ (IntKind.u64.wrap (wrap64 ((wrap64 (x8 * x196000)) + x9))) then (spec_l09Read.l1 k x1 x6 (x7.set ((wrap64 ((wrap64 (bt (rdOf ByteArray.empty x6 x8) x9)) - 97)) : Int).toNat (Go.bits .or .i64 (rd x7 (wrap64 ((wrap64 (bt (rdOf ByteArray.empty x6 x8) x9)) - 97))) (shl .i64 1 (IntKind.u64.wrap (wrap64 ((wrap64 (x8 * x196000)) + x9)))))) x8 (wrap64 (x9 + 1)) x196000 x196001 x196002) else (none)) else (none)) else (spec_l09Read.l1 k x1 x6 x7 x8 (wrap64 (x9 + 1)) x196000 x196001 x196002)) else (spec_l09Read.l1 k x1 x6 x7 x8 (wrap64 (x9 + 1)) x196000 x196001 x196002)) else (none)) else (none)) else (none)) else (none)) else (spec_l09Read.l0 k x1 x6 x7 (wrap64 (x8 + 1)) x196000 x196001 x196002)
end
def spec_l09Read.f (k : Nat) (a0_0 : Int) (a0_1 : Int) (l0_2 : List Int) (a1 : ByteArray) : Option (List Int × Bool) := (spec_l01Split.f k a1 47).bind fun t196 => (if 0 ≤ (l0_2.length : Int) then (if ((l0_2.length : Int) : Int).toNat ≤ 35184372088832 then (if (t196.length : Int) = a0_1 then (spec_l09Read.l0 k a1 t196 (List.replicate ((l0_2.length : Int) : Int).toNat 0) 0 a0_0 a0_1 l0_2) else (some (([] : List Int), false))) else (none)) else (none))
def spec_l09Read.T1 : Bool × List (List Nat × List Nat) := (true, [([], []), ([0], [0]), ([], []), ([2], [2]), ([3], [3]), ([4, 4], [4]), ([1, 1, 0, 1], [1]), ([5, 6, 0, 1, 2, 3, 4, 5, 6], [5])])
def spec_l09Read.B1 : List Nat := [0, 1, 0, 4, 12, 28, 3, 127]
theorem spec_l09Read.tab1 : rtab .any (opsOf Tryd.f15 1) = spec_l09Read.T1 := by kernel_rfl
theorem spec_l09Read.bits1 : waitsOk spec_l09Read.T1.2 spec_l09Read.B1 = true := by kernel_rfl
def spec_l09Read.T7 : Bool × List (List Nat × List Nat) := (true, [([], []), ([], []), ([0, 1], [0, 1]), ([2], [2]), ([3], [3]), ([], []), ([5], [5]), ([4, 6], [4, 6])])
def spec_l09Read.B7 : List Nat := [0, 0, 3, 7, 15, 0, 32, 127]
theorem spec_l09Read.tab7 : rtab .any (opsOf Tryd.f15 7) = spec_l09Read.T7 := by kernel_rfl
theorem spec_l09Read.bits7 : waitsOk spec_l09Read.T7.2 spec_l09Read.B7 = true := by kernel_rfl
def spec_l09Read.T14 : Bool × List (List Nat × List Nat) := (true, [([], []), ([], []), ([], []), ([], []), ([2, 3], [2, 3]), ([4], [4]), ([], []), ([], []), ([7], [7]), ([6, 8], [6, 8]), ([], []), ([9, 10], [9, 10]), ([11], [11]), ([12], [12]), ([5, 13], [5, 13]), ([0, 1, 0, 1, 2, 3, 4, 5, 6, 7, 8, 9, 10, 11, 12, 13, 14], [0, 1]), ([15, 14, 0, 1, 2, 3, 4, 5, 6, 7, 8, 9, 10, 11, 12, 13, 14], [14, 15])])
def spec_l09Read.B14 : List Nat := [0, 0, 0, 0, 12, 28, 0, 0, 128, 448, 0, 1984, 4032, 8128, 16380, 32767, 65535]
theorem spec_l09Read.tab14 : rtab .any (opsOf Tryd.f15 14) = spec_l09Read.T14 := by kernel_rfl
theorem spec_l09Read.bits14 : waitsOk spec_l09Read.T14.2 spec_l09Read.B14 = true := by kernel_rfl
set_option maxHeartbeats 8000000 in
set_option maxRecDepth 100000 in
theorem spec_l09Read.calls (k : Nat) (a0_0 : Int) (a0_1 : Int) (A0_2 : Option Addr) (c0_2 : Nat) (l0_2 : List Int) (a1 : ByteArray) (r1 : List Int) (r2 : Bool) (w : World) (hr0_2 : Kd.C (Kd.int .i64) w A0_2 l0_2.length l0_2) (hc0_2 : l0_2.length ≤ c0_2) (h : spec_l09Read.f k a0_0 a0_1 l0_2 a1 = some (r1, r2)) :
  Calls Tryd.prog 15 #[.agg #[.int .i64 a0_0, .int .i64 a0_1, .slice A0_2 l0_2.length c0_2], .string a1] w fun e w' => ∃ v0_ : Value, e = .returned (.tuple #[v0_, .bool r2]) ∧ Kd.R (Kd.int .i64) 2 w' w.heap.size (fun _ => True) v0_ r1 ∧ Below w.heap.size w w' := by
 have hu28 := Tryd.underlying28
 have HR0_2 := Aside0.mk hr0_2
 have HC0_2 := Aside0.mk hc0_2
 clear hr0_2 hc0_2
 have HB := Aside0.mk (Below.refl w.heap.size w)
 have H : ((spec_l01Split.f k a1 47).bind fun t196 => (if 0 ≤ (l0_2.length : Int) then (if ((l0_2.length : Int) : Int).toNat ≤ 35184372088832 then (if (t196.length : Int) = a0_1 then (spec_l09Read.l0 k a1 t196 (List.replicate ((l0_2.length : Int) : Int).toNat 0) 0 a0_0 a0_1 l0_2) else (some (([] : List Int), false))) else (none)) else (none))) = some (r1, r2) := h
 clear h
 replace H := Option.bind_eq_some_iff.mp H
 obtain ⟨t196, A30, H⟩ := H
 replace H : (if 0 ≤ (l0_2.length : Int) then (if ((l0_2.length : Int) : Int).toNat ≤ 35184372088832 then (if (t196.length : Int) = a0_1 then (spec_l09Read.l0 k a1 t196 (List.replicate ((l0_2.length : Int) : Int).toNat 0) 0 a0_0 a0_1 l0_2) else (some (([] : List Int), false))) else (none)) else (none)) = some (r1, r2) := H
 have A3 := Aside0.mk A30
 clear A30
 by_cases c4 : 0 ≤ (l0_2.length : Int)
 ·rw [if_pos c4] at H
  have c4b0 := eq_true c4
  have c4b1 : decide (0 ≤ (l0_2.length : Int)) = true := decide_eq_true c4
  clear c4
  by_cases c5 : ((l0_2.length : Int) : Int).toNat ≤ 35184372088832
  ·rw [if_pos c5] at H
   have c5b0 := eq_true c5
   have c5b1 : decide (((l0_2.length : Int) : Int).toNat ≤ 35184372088832) = true := decide_eq_true c5
   clear c5
   obtain ⟨y199, hy199⟩ : ∃ y_ : List Int, y_ = (List.replicate ((l0_2.length : Int) : Int).toNat 0) := ⟨_, rfl⟩
   replace H : (if (t196.length : Int) = a0_1 then (spec_l09Read.l0 k a1 t196 y199 0 a0_0 a0_1 l0_2) else (some (([] : List Int), false))) = some (r1, r2) := by first | (rw [hy199]; with_reducible exact H) | (have H2_ := (Option.bind_some _ _).symm.trans H; rw [hy199]; with_reducible exact H2_) | (have H2_ := (Option.bind_some _ _).symm.trans H; with_reducible exact H2_) | with_reducible exact H | (rw [hy199]; exact H) | exact H
   have Ny199 := Aside0.mk hy199
   clear hy199
   by_cases c6 : (t196.length : Int) = a0_1
   ·rw [if_pos c6] at H
    have c6b0 : ((t196.length : Int) == a0_1) = true := beq_iff_eq.mpr c6
    have c6b1 : ((t196.length : Int) != a0_1) = false := bne_eq_false_iff_eq.mpr c6
    clear c6
    have H' := Aside0.mk H
    clear H
    go_enter Tryd.func15, Tryd.ntmps15
    try go_wp2_with (first | ((with_reducible refine gate_dst (N := 2) rfl ?_); (try (refine gate_guard (by rfl) ?_; dsimp only)); refine box_event ?hg (N := 2) ?hd (cs := #[.int .i64 a0_0, .int .i64 a0_1, .slice A0_2 l0_2.length c0_2]) (t := 28) ?hr ?_; (case hd => rfl); (case hg => rfl); (case hr => first | (go_simp; done) | (go_simp; rfl)); intro gb195 hg w7 hbox hb; have n0_ := Aside0.mk (below_step hb_ hb); have n1_ := Aside0.mk (hbox); have n2_ := Aside0.mk ((by rw [hg]; exact (below_size hb_) : w.heap.size ≤ gb195)); have n3_ := Aside0.mk ((by rw [hg]; exact (below_size hb_) : w.heap.size ≤ gb195)); clear HB; have HB := n0_; have BK195 := n1_; have GW195 := n2_; have GE195 := n3_; clear n0_ n1_ n2_ n3_; clear hb hbox hg))
    have n0_ := Aside0.mk (blk_drew BK195.out)
    have n1_ := Aside0.mk (below_drew1 HB.out)
    clear BK195
    clear HB
    have BK195 := n0_
    have HB := n1_
    clear n0_ n1_
    refine start_ (n := 8) (S := fun w' => w'.cell? ⟨gb195, 0, none⟩ = some (.int .i64 a0_0) ∧ w'.cell? ⟨gb195, 1, none⟩ = some (.int .i64 a0_1) ∧ w'.cell? ⟨gb195, 2, none⟩ = some (.slice A0_2 l0_2.length c0_2)) (ds := []) #[false, false, false, false, false, false, false, false] (by kernel_rfl) rfl rfl ⟨(blk_cell BK195.out 0).trans rfl, (blk_cell BK195.out 1).trans rfl, (blk_cell BK195.out 2).trans rfl⟩ (fun hHeld => ?_); refine with_tabW spec_l09Read.tab1 spec_l09Read.bits1 (fun HT_ HW_ => ?_)
    generalize w7.drew = w8 at BK195 HB hHeld ⊢
    refine pure_ (i := 0) (N := some 11) (v := ?_) (a' := ?_) (flg_ 8 1) rfl rfl (any_of HT_.out (by kernel_rfl)) (fun _ _ _ h => h) (Or.inl ⟨by rfl, ?_⟩) ?_ ?_
    rotate_left; (· (intro w'; go_simp; with_reducible rfl)); rotate_left; (· (simp only [Act.put, sz_, s0_, s1_, i64_w, i32_w]; rfl))
    refine pure_ (i := 2) (N := some 13) (v := ?_) (a' := ?_) (flg_ 8 5) rfl rfl (any_of HT_.out (by kernel_rfl)) (fun _ _ _ h => h) (Or.inl ⟨by rfl, ?_⟩) ?_ ?_
    rotate_left; (· (intro w'; go_simp; with_reducible rfl)); rotate_left; (· (simp only [Act.put, sz_, s0_, s1_, i64_w, i32_w]; rfl))
    refine take_ (i := 3) (N := some 14) (v := ?_) (a' := ?_) (flg_ 8 13) rfl rfl (take_ofW HT_.out HW_.out (by kernel_rfl)) (fun _ _ _ h => h) (Or.inl ⟨by rfl, ?_⟩) hHeld ?_ ?_
    rotate_left; (· (rintro w' ⟨s0, s1, s2⟩; go_simp; with_reducible rfl)); rotate_left; (· (simp only [Act.put, sz_, s0_, s1_, i64_w, i32_w]; rfl))
    refine pure_ (i := 4) (N := some 15) (v := ?_) (a' := ?_) (flg_ 8 29) rfl rfl (any_of HT_.out (by kernel_rfl)) (fun _ _ _ h => h) (Or.inl ⟨by rfl, ?_⟩) ?_ ?_
    rotate_left; (· (intro w'; go_simp; with_reducible rfl)); rotate_left; (· (simp only [Act.put, sz_, s0_, s1_, i64_w, i32_w]; rfl))
    refine join_ (σ := Value × Value) 1 #[true, true, true, true, true, true, true, false] (fun s_ => [(12, s_.1), (16, s_.2), (6, s_.1)]) (fun s_ w' => (w'.cell? ⟨gb195, 0, none⟩ = some (.int .i64 a0_0) ∧ w'.cell? ⟨gb195, 1, none⟩ = some (.int .i64 a0_1) ∧ w'.cell? ⟨gb195, 2, none⟩ = some (.slice A0_2 l0_2.length c0_2)) ∧ (Kd.R Kd.string 9 w' w.heap.size (fun _ => True) s_.1 t196) ∧ (Kd.R (Kd.int .i64) 2 w' w.heap.size (fun _ => True) s_.2 y199) ∧ (w'.heap[gb195]? = some (.cells #[.int .i64 a0_0, .int .i64 a0_1, .slice A0_2 l0_2.length c0_2] 28 (0, 0))) ∧ (Below w.heap.size w w')) ?_ ?_
    rotate_left
    ·intro hCont
     refine two_ (i := 1) (j := 5) (Ni := some 12) (Nj := some 16) (flg_ 8 31) (flg_ 8 61) rfl rfl rfl rfl (two_of HT_.out (by kernel_rfl)) (by decide) (by decide) (fun K hK => ?_) (fun K hK => ?_)
     ·skip
      refine goes_ Tryd.func21 (by kernel_rfl) rfl #[.string a1, .int .u8 47] (by rfl) rfl rfl (by (try simp only [List.map_toArray, List.map_cons, List.map_nil]); first | done | rfl | (simp only [List.length_drop, List.length_take]; rfl)) ?_
      with_reducible refine (spec_l01Split.calls k a1 47 t196 _ A3.out).mono ?_
      rintro e w9 ⟨v197, rfl, ho0, hb⟩
      refine ⟨_, rfl, ?_⟩
      have n0_ := Aside0.mk (Kd.R_lower ho0 (below_size (by repeat (first | (with_reducible first | exact HB.out | apply below_alloc | apply pw_below_drewN | apply below_drew1 | refine below_set ?_ GE195.out) | exact HB.out))))
      have n1_ := Aside0.mk (blk_below (g := gb195) (o := .cells #[.int .i64 a0_0, .int .i64 a0_1, .slice A0_2 l0_2.length c0_2] 28 (0, 0)) (by (with_reducible repeat (first | refine blk_drewN ?_ _ | refine blk_drew ?_ | refine blk_alloc ?_ _)); exact BK195.out) hb)
      have n2_ := Aside0.mk (below_step (by repeat (first | (with_reducible first | exact HB.out | apply below_alloc | apply pw_below_drewN | apply below_drew1 | refine below_set ?_ GE195.out) | exact HB.out)) hb)
      clear BK195
      clear HB
      have HO198 := n0_
      have BK195 := n1_
      have HB := n2_
      clear n0_ n1_ n2_
      (try clear hb)
      (try clear hb2)
      (try clear hk)
      (try clear hi)
      (try clear ho0)
      refine hK.out _ _ ⟨(blk_cell BK195.out 0).trans rfl, (blk_cell BK195.out 1).trans rfl, (blk_cell BK195.out 2).trans rfl⟩ (fun hHeld => ?_)
      clear hK K
      refine norm_ (a' := ?_) ?_ ?_
      rotate_left
      ·show Act.put _ (some 12) _ = _
       simp only [Act.put, sz_, s0_, s1_, i64_w, i32_w]
       rfl
      refine pure_ (i := 6) (N := some 6) (v := ?_) (a' := ?_) (flg_ 8 95) rfl rfl (any_of HT_.out (by kernel_rfl)) (fun _ _ _ h => h) (Or.inl ⟨by rfl, ?_⟩) ?_ ?_
      rotate_left; (· (intro w'; go_simp; with_reducible rfl)); rotate_left; (· (simp only [Act.put, sz_, s0_, s1_, i64_w, i32_w]; rfl))
      refine one_ (i := 5) (N := some 16) (flg_ 8 127) rfl rfl (one_of HT_.out (by kernel_rfl)) (by decide) (fun K hK => ?_)
      refine Kd.R_make_step (Kd.int .i64) _ 2 (by rfl) (N := 16) rfl 22 _ _ rfl (l0_2.length : Int) rfl rfl Tryd.underlying22 (.int .i64 0) 8 info2 rfl (by decide) (by omega) 0 (ok := fun _ => True) (okp := fun _ => True) rfl (fun _ hk => hk) trivial (oda) (Nat.le_trans (Nat.mul_le_mul_right _ (oda : (l0_2.length : Int).toNat ≤ 35184372088832)) (by omega)) (Below.refl _ _) (Nat.le_refl _) ?_
      intro v200 w10 ho11 hb hg_ hnew_
      clear hg_ hnew_
      (first | rw [← Ny199.out] at ho11 | (simp only [Int.reduceToNat] at ho11; rw [← Ny199.out] at ho11))
      have n0_ := Aside0.mk (Kd.R_below (by (with_reducible repeat (first | apply Kd.R_alloc | apply Kd.R_drewN | apply Kd.R_drew)); exact HO198.out) hb)
      have n1_ := Aside0.mk (Kd.R_lower ho11 (below_size (by repeat (first | (with_reducible first | exact HB.out | apply below_alloc | apply pw_below_drewN | apply below_drew1 | refine below_set ?_ GE195.out) | exact HB.out))))
      have n2_ := Aside0.mk (blk_below (g := gb195) (o := .cells #[.int .i64 a0_0, .int .i64 a0_1, .slice A0_2 l0_2.length c0_2] 28 (0, 0)) (by (with_reducible repeat (first | refine blk_drewN ?_ _ | refine blk_drew ?_ | refine blk_alloc ?_ _)); exact BK195.out) hb)
      have n3_ := Aside0.mk (below_step (by repeat (first | (with_reducible first | exact HB.out | apply below_alloc | apply pw_below_drewN | apply below_drew1 | refine below_set ?_ GE195.out) | exact HB.out)) hb)
      clear HO198
      clear BK195
      clear HB
      have HO198 := n0_
      have HO201 := n1_
      have BK195 := n2_
      have HB := n3_
      clear n0_ n1_ n2_ n3_
      clear hb ho11
      refine hK.out _ _ ⟨(blk_cell BK195.out 0).trans rfl, (blk_cell BK195.out 1).trans rfl, (blk_cell BK195.out 2).trans rfl⟩ (fun hHeld => ?_)
      clear hK K
      refine norm_ (a' := ?_) ?_ ?_
      rotate_left
      ·show Act.put _ (some 16) _ = _
       simp only [Act.put, sz_, s0_, s1_, i64_w, i32_w]
       rfl
      exact norm_ (by simp only [putAll, Act.put, List.setIfInBounds_toArray, List.set_cons_zero, List.set_cons_succ]) (hCont (v197, v200) _ ⟨hHeld, (by (with_reducible repeat (first | apply Kd.R_alloc | apply Kd.R_drewN | apply Kd.R_drew)); exact HO198.out), (by (with_reducible repeat (first | apply Kd.R_alloc | apply Kd.R_drewN | apply Kd.R_drew)); exact HO201.out), (by (with_reducible repeat (first | refine blk_drewN ?_ _ | refine blk_drew ?_ | refine blk_alloc ?_ _)); exact BK195.out), (by repeat (first | (with_reducible first | exact HB.out | apply below_alloc | apply pw_below_drewN | apply below_drew1 | refine below_set ?_ GE195.out) | exact HB.out))⟩)
     ·skip
      refine Kd.R_make_step (Kd.int .i64) _ 2 (by rfl) (N := 16) rfl 22 _ _ rfl (l0_2.length : Int) rfl rfl Tryd.underlying22 (.int .i64 0) 8 info2 rfl (by decide) (by omega) 0 (ok := fun _ => True) (okp := fun _ => True) rfl (fun _ hk => hk) trivial (oda) (Nat.le_trans (Nat.mul_le_mul_right _ (oda : (l0_2.length : Int).toNat ≤ 35184372088832)) (by omega)) (Below.refl _ _) (Nat.le_refl _) ?_
      intro v200 w9 ho10 hb hg_ hnew_
      clear hg_ hnew_
      (first | rw [← Ny199.out] at ho10 | (simp only [Int.reduceToNat] at ho10; rw [← Ny199.out] at ho10))
      have n0_ := Aside0.mk (Kd.R_lower ho10 (below_size (by repeat (first | (with_reducible first | exact HB.out | apply below_alloc | apply pw_below_drewN | apply below_drew1 | refine below_set ?_ GE195.out) | exact HB.out))))
      have n1_ := Aside0.mk (blk_below (g := gb195) (o := .cells #[.int .i64 a0_0, .int .i64 a0_1, .slice A0_2 l0_2.length c0_2] 28 (0, 0)) (by (with_reducible repeat (first | refine blk_drewN ?_ _ | refine blk_drew ?_ | refine blk_alloc ?_ _)); exact BK195.out) hb)
      have n2_ := Aside0.mk (below_step (by repeat (first | (with_reducible first | exact HB.out | apply below_alloc | apply pw_below_drewN | apply below_drew1 | refine below_set ?_ GE195.out) | exact HB.out)) hb)
      clear BK195
      clear HB
      have HO201 := n0_
      have BK195 := n1_
      have HB := n2_
      clear n0_ n1_ n2_
      clear hb ho10
      refine hK.out _ _ ⟨(blk_cell BK195.out 0).trans rfl, (blk_cell BK195.out 1).trans rfl, (blk_cell BK195.out 2).trans rfl⟩ (fun hHeld => ?_)
      clear hK K
      refine norm_ (a' := ?_) ?_ ?_
      rotate_left
      ·show Act.put _ (some 16) _ = _
       simp only [Act.put, sz_, s0_, s1_, i64_w, i32_w]
       rfl
      refine one_ (i := 1) (N := some 12) (flg_ 8 63) rfl rfl (one_of HT_.out (by kernel_rfl)) (by decide) (fun K hK => ?_)
      refine goes_ Tryd.func21 (by kernel_rfl) rfl #[.string a1, .int .u8 47] (by rfl) rfl rfl (by (try simp only [List.map_toArray, List.map_cons, List.map_nil]); first | done | rfl | (simp only [List.length_drop, List.length_take]; rfl)) ?_
      with_reducible refine (spec_l01Split.calls k a1 47 t196 _ A3.out).mono ?_
      rintro e w11 ⟨v197, rfl, ho0, hb⟩
      refine ⟨_, rfl, ?_⟩
      have n0_ := Aside0.mk (Kd.R_below (by (with_reducible repeat (first | apply Kd.R_alloc | apply Kd.R_drewN | apply Kd.R_drew)); exact HO201.out) hb)
      have n1_ := Aside0.mk (Kd.R_lower ho0 (below_size (by repeat (first | (with_reducible first | exact HB.out | apply below_alloc | apply pw_below_drewN | apply below_drew1 | refine below_set ?_ GE195.out) | exact HB.out))))
      have n2_ := Aside0.mk (blk_below (g := gb195) (o := .cells #[.int .i64 a0_0, .int .i64 a0_1, .slice A0_2 l0_2.length c0_2] 28 (0, 0)) (by (with_reducible repeat (first | refine blk_drewN ?_ _ | refine blk_drew ?_ | refine blk_alloc ?_ _)); exact BK195.out) hb)
      have n3_ := Aside0.mk (below_step (by repeat (first | (with_reducible first | exact HB.out | apply below_alloc | apply pw_below_drewN | apply below_drew1 | refine below_set ?_ GE195.out) | exact HB.out)) hb)
      clear HO201
      clear BK195
      clear HB
      have HO201 := n0_
      have HO198 := n1_
      have BK195 := n2_
      have HB := n3_
      clear n0_ n1_ n2_ n3_
      (try clear hb)
      (try clear hb2)
      (try clear hk)
      (try clear hi)
      (try clear ho0)
      refine hK.out _ _ ⟨(blk_cell BK195.out 0).trans rfl, (blk_cell BK195.out 1).trans rfl, (blk_cell BK195.out 2).trans rfl⟩ (fun hHeld => ?_)
      clear hK K
      refine norm_ (a' := ?_) ?_ ?_
      rotate_left
      ·show Act.put _ (some 12) _ = _
       simp only [Act.put, sz_, s0_, s1_, i64_w, i32_w]
       rfl
      refine pure_ (i := 6) (N := some 6) (v := ?_) (a' := ?_) (flg_ 8 127) rfl rfl (any_of HT_.out (by kernel_rfl)) (fun _ _ _ h => h) (Or.inl ⟨by rfl, ?_⟩) ?_ ?_
      rotate_left; (· (intro w'; go_simp; with_reducible rfl)); rotate_left; (· (simp only [Act.put, sz_, s0_, s1_, i64_w, i32_w]; rfl))
      exact norm_ (by simp only [putAll, Act.put, List.setIfInBounds_toArray, List.set_cons_zero, List.set_cons_succ]) (hCont (v197, v200) _ ⟨hHeld, (by (with_reducible repeat (first | apply Kd.R_alloc | apply Kd.R_drewN | apply Kd.R_drew)); exact HO198.out), (by (with_reducible repeat (first | apply Kd.R_alloc | apply Kd.R_drewN | apply Kd.R_drew)); exact HO201.out), (by (with_reducible repeat (first | refine blk_drewN ?_ _ | refine blk_drew ?_ | refine blk_alloc ?_ _)); exact BK195.out), (by repeat (first | (with_reducible first | exact HB.out | apply below_alloc | apply pw_below_drewN | apply below_drew1 | refine below_set ?_ GE195.out) | exact HB.out))⟩)
    rintro ⟨v197, v200⟩ w12 ⟨hS_, h0_, h1_, h2_, h3_⟩
    have n0_ : Aside0 (Kd.R Kd.string 9 w12 w.heap.size (fun _ => True) v197 t196) := ⟨h0_⟩
    have n1_ : Aside0 (Kd.R (Kd.int .i64) 2 w12 w.heap.size (fun _ => True) v200 y199) := ⟨h1_⟩
    have n2_ : Aside0 (w12.heap[gb195]? = some (.cells #[.int .i64 a0_0, .int .i64 a0_1, .slice A0_2 l0_2.length c0_2] 28 (0, 0))) := ⟨h2_⟩
    have n3_ : Aside0 (Below w.heap.size w w12) := ⟨h3_⟩
    clear BK195
    clear HB
    clear h0_ h1_ h2_ h3_
    have HO198 := n0_
    have HO201 := n1_
    have BK195 := n2_
    have HB := n3_
    clear n0_ n1_ n2_ n3_
    have hHeld : w12.cell? ⟨gb195, 0, none⟩ = some (.int .i64 a0_0) ∧ w12.cell? ⟨gb195, 1, none⟩ = some (.int .i64 a0_1) ∧ w12.cell? ⟨gb195, 2, none⟩ = some (.slice A0_2 l0_2.length c0_2) := hS_
    refine norm_ (a' := ?_) ?_ ?_
    rotate_left
    ·simp only [putAll, Act.put, List.setIfInBounds_toArray, List.set_cons_zero, List.set_cons_succ]
     rfl
    refine pure_ (i := 7) (N := some 7) (v := ?_) (a' := ?_) (flg_ 8 255) rfl rfl (any_of HT_.out (by kernel_rfl)) (fun _ _ _ h => h) (Or.inl ⟨by rfl, ?_⟩) ?_ ?_
    rotate_left; (· (intro w'; go_simp; with_reducible rfl)); rotate_left; (· (simp only [Act.put, sz_, s0_, s1_, i64_w, i32_w]; rfl))
    refine done_ (done_of HT_.out (by kernel_rfl)) ?_
    obtain ⟨Ao13, co13, eo13⟩ := Kd.R_slice HO198.out
    subst eo13
    have hcz14_0 : w12.cell? ⟨gb195, 0, none⟩ = some (.int .i64 a0_0) := (blk_cell BK195.out 0).trans rfl
    have hcz14_1 : w12.cell? ⟨gb195, 1, none⟩ = some (.int .i64 a0_1) := (blk_cell BK195.out 1).trans rfl
    have hcz14_2 : w12.cell? ⟨gb195, 2, none⟩ = some (.slice A0_2 l0_2.length c0_2) := (blk_cell BK195.out 2).trans rfl
    have hfz14_0 := blk_frozen BK195.out 0
    have hfz14_1 := blk_frozen BK195.out 1
    have hfz14_2 := blk_frozen BK195.out 2
    try go_wp2
    go_loopg [8] k (fun kq v8 w' => ∃ (x7_1 : List Int) (x8_1 : Int), v8 = .int .i64 x8_1 ∧ Aside0 (spec_l09Read.l0 kq a1 t196 x7_1 x8_1 a0_0 a0_1 l0_2 = some (r1, r2)) ∧ Aside0 (kq ≤ k) ∧ Aside0 (Kd.R Kd.string 9 w' w.heap.size (fun _ => True) (.slice Ao13 t196.length co13) t196) ∧ Aside0 (Kd.R (Kd.int .i64) 2 w' w.heap.size (fun _ => True) v200 x7_1) ∧ Aside0 (w'.heap[gb195]? = some (.cells #[.int .i64 a0_0, .int .i64 a0_1, (.slice A0_2 l0_2.length c0_2)] 28 (0, 0))) ∧ Aside0 (Below w.heap.size w w'))
    case atStart => exact ⟨(y199), (0), (by first | rfl | (simp; done) | (simp [*]; done)), H', ⟨Nat.le_refl _⟩, ⟨by (with_reducible repeat (first | apply Kd.R_alloc | apply Kd.R_drewN | apply Kd.R_drew)); exact HO198.out⟩, ⟨by (with_reducible repeat (first | apply Kd.R_alloc | apply Kd.R_drewN | apply Kd.R_drew)); exact HO201.out⟩, ⟨by (with_reducible repeat (first | refine blk_drewN ?_ _ | refine blk_drew ?_ | refine blk_alloc ?_ _)); exact BK195.out⟩, ⟨by repeat (first | (with_reducible first | exact HB.out | apply below_alloc | apply pw_below_drewN | apply below_drew1 | refine below_set ?_ GE195.out) | exact HB.out)⟩⟩
    case round =>
     clear H'
     (try clear c1); (try clear c2); (try clear p2); (try clear c4); (try clear c4b0); (try clear c4b1); (try clear c5); (try clear c5b0); (try clear c5b1); (try clear c6); (try clear c6b0); (try clear c6b1); (try clear hcz14_0); (try clear hcz14_1); (try clear hcz14_2); (try clear hfz14_0); (try clear hfz14_1); (try clear hfz14_2)
     obtain ⟨x7_1, x8_1, rfl, HA, HK1, HO_6, HO_7, BK195, HB⟩ := hrel
     cases gk with
     | zero => exact absurd HA.out (by simp [spec_l09Read.l0])
     | succ k1 =>
      have H := HA.out
      clear HA
      simp only [spec_l09Read.l0] at H
      by_cases c15 : x8_1 < a0_1
      ·rw [if_pos c15] at H
       have c15b0 : decide (x8_1 < a0_1) = true := decide_eq_true c15
       clear c15
       by_cases c16 : 0 ≤ x8_1
       ·rw [if_pos c16] at H
        have c16b0 : decide (0 ≤ x8_1) = true := decide_eq_true c16
        clear c16
        by_cases c17 : x8_1 < (t196.length : Int)
        ·rw [if_pos c17] at H
         have c17b0 : decide (x8_1 < (t196.length : Int)) = true := decide_eq_true c17
         clear c17
         by_cases c18 : ((rdOf ByteArray.empty t196 x8_1).size : Int) = a0_0
         ·rw [if_pos c18] at H
          have c18b0 : (((rdOf ByteArray.empty t196 x8_1).size : Int) == a0_0) = true := beq_iff_eq.mpr c18
          have c18b1 : (((rdOf ByteArray.empty t196 x8_1).size : Int) != a0_0) = false := bne_eq_false_iff_eq.mpr c18
          clear c18
          have H' := Aside0.mk H
          clear H
          have hcz19_0 : wr.cell? ⟨gb195, 0, none⟩ = some (.int .i64 a0_0) := (blk_cell BK195.out 0).trans rfl
          have hcz19_1 : wr.cell? ⟨gb195, 1, none⟩ = some (.int .i64 a0_1) := (blk_cell BK195.out 1).trans rfl
          have hcz19_2 : wr.cell? ⟨gb195, 2, none⟩ = some (.slice A0_2 l0_2.length c0_2) := (blk_cell BK195.out 2).trans rfl
          have hfz19_0 := blk_frozen BK195.out 0
          have hfz19_1 := blk_frozen BK195.out 1
          have hfz19_2 := blk_frozen BK195.out 2
          try go_wp2
          have n0_ := Aside0.mk (Kd.R_drew HO_6.out)
          have n1_ := Aside0.mk (Kd.R_drew HO_7.out)
          have n2_ := Aside0.mk (blk_drew BK195.out)
          have n3_ := Aside0.mk (below_drew1 HB.out)
          clear HO_6
          clear HO_7
          clear BK195
          clear HB
          have HO_6 := n0_
          have HO_7 := n1_
          have BK195 := n2_
          have HB := n3_
          clear n0_ n1_ n2_ n3_
          have p204 : 0 ≤ (x8_1 : Int) := oda
          have q204 : x8_1 < (t196.length : Int) := oda
          obtain ⟨ad204, e204, hx204_0⟩ := Kd.at_string (Kd.R_reads' HO_6.out).2.2 x8_1 p204 q204
          cases e204
          replace p204 := eq_true p204
          replace q204 := eq_true q204
          refine start_ (n := 8) (S := fun w' => w'.cell? ⟨gb195, 0, none⟩ = some (.int .i64 a0_0) ∧ w'.cell? ⟨gb195, 1, none⟩ = some (.int .i64 a0_1) ∧ w'.cell? ⟨gb195, 2, none⟩ = some (.slice A0_2 l0_2.length c0_2) ∧ w'.cell? (ad204.add (x8_1).toNat) = some (.string (rdOf ByteArray.empty t196 x8_1))) (ds := []) #[false, false, false, false, false, false, false, false] (by kernel_rfl) rfl rfl ⟨(blk_cell BK195.out 0).trans rfl, (blk_cell BK195.out 1).trans rfl, (blk_cell BK195.out 2).trans rfl, hx204_0⟩ (fun hHeld => ?_); refine with_tabW spec_l09Read.tab7 spec_l09Read.bits7 (fun HT_ HW_ => ?_)
          generalize wr.drew = w20 at HO_6 HO_7 BK195 HB hx204_0 hHeld ⊢
          refine pure_ (i := 0) (N := some 28) (v := ?_) (a' := ?_) (flg_ 8 1) rfl rfl (any_of HT_.out (by kernel_rfl)) (fun _ _ _ h => h) (Or.inl ⟨by rfl, ?_⟩) ?_ ?_
          rotate_left; (· (intro w'; go_simp; with_reducible rfl)); rotate_left; (· (simp only [Act.put, sz_, s0_, s1_, i64_w, i32_w]; rfl))
          refine pure_ (i := 1) (N := some 29) (v := ?_) (a' := ?_) (flg_ 8 3) rfl rfl (any_of HT_.out (by kernel_rfl)) (fun _ _ _ h => h) (Or.inl ⟨by rfl, ?_⟩) ?_ ?_
          rotate_left; (· (intro w'; go_simp; with_reducible rfl)); rotate_left; (· (simp only [Act.put, sz_, s0_, s1_, i64_w, i32_w]; rfl))
          refine pure_ (i := 2) (N := some 30) (v := ?_) (a' := ?_) (flg_ 8 7) rfl rfl (any_of HT_.out (by kernel_rfl)) (fun _ _ _ h => h) (Or.inl ⟨by rfl, ?_⟩) ?_ ?_
          rotate_left; (· (intro w'; go_simp; with_reducible rfl)); rotate_left; (· (simp only [Act.put, sz_, s0_, s1_, i64_w, i32_w]; rfl))
          refine pure_ (i := 5) (N := some 33) (v := ?_) (a' := ?_) (flg_ 8 39) rfl rfl (any_of HT_.out (by kernel_rfl)) (fun _ _ _ h => h) (Or.inl ⟨by rfl, ?_⟩) ?_ ?_
          rotate_left; (· (intro w'; go_simp; with_reducible rfl)); rotate_left; (· (simp only [Act.put, sz_, s0_, s1_, i64_w, i32_w]; rfl))
          refine take_ (i := 3) (N := some 31) (v := ?_) (a' := ?_) (flg_ 8 47) rfl rfl (take_ofW HT_.out HW_.out (by kernel_rfl)) (fun _ _ _ h => h) (Or.inl ⟨by rfl, ?_⟩) hHeld ?_ ?_
          rotate_left; (· (rintro w' ⟨s0, s1, s2, s3⟩; go_simp; with_reducible rfl)); rotate_left; (· (simp only [Act.put, sz_, s0_, s1_, i64_w, i32_w]; rfl))
          refine pure_ (i := 4) (N := some 32) (v := ?_) (a' := ?_) (flg_ 8 63) rfl rfl (any_of HT_.out (by kernel_rfl)) (fun _ _ _ h => h) (Or.inl ⟨by rfl, ?_⟩) ?_ ?_
          rotate_left; (· (intro w'; go_simp; with_reducible rfl)); rotate_left; (· (simp only [Act.put, sz_, s0_, s1_, i64_w, i32_w]; rfl))
          refine take_ (i := 6) (N := some 34) (v := ?_) (a' := ?_) (flg_ 8 127) rfl rfl (take_ofW HT_.out HW_.out (by kernel_rfl)) (fun _ _ _ h => h) (Or.inl ⟨by rfl, ?_⟩) hHeld ?_ ?_
          rotate_left; (· (rintro w' ⟨s0, s1, s2, s3⟩; go_simp; with_reducible rfl)); rotate_left; (· (simp only [Act.put, sz_, s0_, s1_, i64_w, i32_w]; rfl))
          refine pure_ (i := 7) (N := some 35) (v := ?_) (a' := ?_) (flg_ 8 255) rfl rfl (any_of HT_.out (by kernel_rfl)) (fun _ _ _ h => h) (Or.inl ⟨by rfl, ?_⟩) ?_ ?_
          rotate_left; (· (intro w'; go_simp; with_reducible rfl)); rotate_left; (· (simp only [Act.put, sz_, s0_, s1_, i64_w, i32_w]; rfl))
          refine done_ (done_of HT_.out (by kernel_rfl)) ?_
          try go_wp2
          go_loopg [9] k1 (fun kq v9 w' => ∃ (x7_2 : List Int) (x9_2 : Int), v9 = .int .i64 x9_2 ∧ Aside0 (spec_l09Read.l1 kq a1 t196 x7_2 x8_1 x9_2 a0_0 a0_1 l0_2 = some (r1, r2)) ∧ Aside0 (kq ≤ k1) ∧ Aside0 (Kd.R Kd.string 9 w' w.heap.size (fun _ => True) (.slice (some ad204) t196.length co13) t196) ∧ Aside0 (Kd.R (Kd.int .i64) 2 w' w.heap.size (fun _ => True) v200 x7_2) ∧ Aside0 (w'.heap[gb195]? = some (.cells #[.int .i64 a0_0, .int .i64 a0_1, (.slice A0_2 l0_2.length c0_2)] 28 (0, 0))) ∧ Aside0 (Below w.heap.size w w'))
          case atStart => exact ⟨(x7_1), (0), (by first | rfl | (simp; done) | (simp [*]; done)), H', ⟨Nat.le_refl _⟩, ⟨by (with_reducible repeat (first | apply Kd.R_alloc | apply Kd.R_drewN | apply Kd.R_drew)); exact HO_6.out⟩, ⟨by (with_reducible repeat (first | apply Kd.R_alloc | apply Kd.R_drewN | apply Kd.R_drew)); exact HO_7.out⟩, ⟨by (with_reducible repeat (first | refine blk_drewN ?_ _ | refine blk_drew ?_ | refine blk_alloc ?_ _)); exact BK195.out⟩, ⟨by repeat (first | (with_reducible first | exact HB.out | apply below_alloc | apply pw_below_drewN | apply below_drew1 | refine below_set ?_ GE195.out) | exact HB.out)⟩⟩
          case round =>
           clear H'
           (try clear c1); (try clear c2); (try clear p2); (try clear q2); (try clear hx2); (try clear c4); (try clear c4b0); (try clear c4b1); (try clear c5); (try clear c5b0); (try clear c5b1); (try clear c6); (try clear c6b0); (try clear c6b1); (try clear c15); (try clear c15b0); (try clear c16); (try clear c16b0); (try clear c17); (try clear c17b0); (try clear c18); (try clear c18b0); (try clear c18b1); (try clear p20); (try clear q20); (try clear hx20); (try clear hcz14_0); (try clear hcz14_1); (try clear hcz14_2); (try clear hcz19_0); (try clear hcz19_1); (try clear hcz19_2); (try clear hfz14_0); (try clear hfz14_1); (try clear hfz14_2); (try clear hfz19_0); (try clear hfz19_1); (try clear hfz19_2); (try clear hx204_0); (try clear p2); (try clear p204); (try clear q204)
           obtain ⟨x7_2, x9_2, rfl, HA, HK2, HO_6, HO_7, BK195, HB⟩ := hrel
           cases gk with
           | zero => exact absurd HA.out (by simp [spec_l09Read.l1])
           | succ k2 =>
            have H := HA.out
            clear HA
            simp only [spec_l09Read.l1] at H
            by_cases c21 : x9_2 < a0_0
            ·rw [if_pos c21] at H
             have c21b0 : decide (x9_2 < a0_0) = true := decide_eq_true c21
             clear c21
             by_cases c22 : 0 ≤ x8_1
             ·rw [if_pos c22] at H
              have c22b0 : decide (0 ≤ x8_1) = true := decide_eq_true c22
              clear c22
              by_cases c23 : x8_1 < (t196.length : Int)
              ·rw [if_pos c23] at H
               have c23b0 : decide (x8_1 < (t196.length : Int)) = true := decide_eq_true c23
               clear c23
               by_cases c24 : 0 ≤ x9_2
               ·rw [if_pos c24] at H
                have c24b0 : decide (0 ≤ x9_2) = true := decide_eq_true c24
                clear c24
                by_cases c25 : x9_2 < ((rdOf ByteArray.empty t196 x8_1).size : Int)
                ·rw [if_pos c25] at H
                 have c25b0 : decide (x9_2 < ((rdOf ByteArray.empty t196 x8_1).size : Int)) = true := decide_eq_true c25
                 clear c25
                 by_cases c27 : (wrap64 ((wrap64 (bt (rdOf ByteArray.empty t196 x8_1) x9_2)) - 97)) ≥ 0
                 ·rw [if_pos c27] at H
                  have c27b0 : decide (0 ≤ (wrap64 ((wrap64 (bt (rdOf ByteArray.empty t196 x8_1) x9_2)) - 97))) = true := decide_eq_true c27
                  clear c27
                  by_cases c28 : (wrap64 ((wrap64 (bt (rdOf ByteArray.empty t196 x8_1) x9_2)) - 97)) < (x7_2.length : Int)
                  ·rw [if_pos c28] at H
                   have c28b0 : decide ((wrap64 ((wrap64 (bt (rdOf ByteArray.empty t196 x8_1) x9_2)) - 97)) < (x7_2.length : Int)) = true := decide_eq_true c28
                   clear c28
                   obtain ⟨ji29, hji29⟩ : ∃ j_ : Int, (wrap64 ((wrap64 (bt (rdOf ByteArray.empty t196 x8_1) x9_2)) - 97)) = j_ := ⟨_, rfl⟩
                   replace H : (if 0 ≤ (ji29) then (if 0 ≤ (IntKind.u64.wrap (wrap64 ((wrap64 (x8_1 * a0_0)) + x9_2))) then (spec_l09Read.l1 k2 a1 t196 (x7_2.set ((ji29) : Int).toNat (Go.bits .or .i64 (rd x7_2 (ji29)) (shl .i64 1 (IntKind.u64.wrap (wrap64 ((wrap64 (x8_1 * a0_0)) + x9_2)))))) x8_1 (wrap64 (x9_2 + 1)) a0_0 a0_1 l0_2) else (none)) else (none)) = some (r1, r2) := by first | (rw [hji29] at H; exact H) | (simp only [hji29] at H ⊢; exact H)
                   (try rw [hji29] at c27b0)
                   (try rw [hji29] at c28b0)
                   have hji29w : (IntKind.i64.wrap ((wrap64 (bt (rdOf ByteArray.empty t196 x8_1) x9_2)) - 97)) = ji29 := (i64_w _).trans hji29
                   by_cases c30 : 0 ≤ (ji29)
                   ·rw [if_pos c30] at H
                    have c30b0 : decide (0 ≤ (ji29)) = true := decide_eq_true c30
                    clear c30
                    obtain ⟨ji31, hji31⟩ : ∃ j_ : Int, (IntKind.u64.wrap (wrap64 ((wrap64 (x8_1 * a0_0)) + x9_2))) = j_ := ⟨_, rfl⟩
                    replace H : (if 0 ≤ (ji31) then (spec_l09Read.l1 k2 a1 t196 (x7_2.set ((ji29) : Int).toNat (Go.bits .or .i64 (rd x7_2 (ji29)) (shl .i64 1 (ji31)))) x8_1 (wrap64 (x9_2 + 1)) a0_0 a0_1 l0_2) else (none)) = some (r1, r2) := by first | (rw [hji31] at H; exact H) | (simp only [hji31] at H ⊢; exact H)
                    by_cases c32 : 0 ≤ (ji31)
                    ·rw [if_pos c32] at H
                     have c32b0 := eq_true c32
                     have c32b1 : decide (0 ≤ (ji31)) = true := decide_eq_true c32
                     clear c32
                     obtain ⟨ji33, hji33⟩ : ∃ j_ : Int, (shl .i64 1 (ji31)) = j_ := ⟨_, rfl⟩
                     replace H : (spec_l09Read.l1 k2 a1 t196 (x7_2.set ((ji29) : Int).toNat (Go.bits .or .i64 (rd x7_2 (ji29)) (ji33))) x8_1 (wrap64 (x9_2 + 1)) a0_0 a0_1 l0_2) = some (r1, r2) := by first | (rw [hji33] at H; exact H) | (simp only [hji33] at H ⊢; exact H)
                     have hji33_ : (IntKind.i64.wrap (1 * 2 ^ min (ji31).toNat 64)) = ji33 := hji33
                     have hji33z : (ji31) ≤ 64 → (IntKind.i64.wrap (1 * 2 ^ (ji31).toNat)) = ji33 := shl_small hji33
                     have hji33u : (IntKind.i64.wrap (2 ^ min (ji31).toNat 64)) = ji33 := by have h_ := hji33_; rw [Int.one_mul] at h_; exact h_
                     have hji33v : (ji31) ≤ 64 → (IntKind.i64.wrap (2 ^ (ji31).toNat)) = ji33 := fun hle_ => by have h_ := hji33z hle_; rw [Int.one_mul] at h_; exact h_
                     have hji33y : (wrap64 (1 * 2 ^ min (ji31).toNat 64)) = ji33 := (i64_w _).symm.trans hji33_
                     have hji33x : (ji31) ≤ 64 → (wrap64 (1 * 2 ^ (ji31).toNat)) = ji33 := fun h_ => (i64_w _).symm.trans (hji33z h_)
                     obtain ⟨y207, hy207⟩ : ∃ y_ : List Int, y_ = (x7_2.set ((ji29) : Int).toNat (Go.bits .or .i64 (rd x7_2 (ji29)) (ji33))) := ⟨_, rfl⟩
                     replace H : (spec_l09Read.l1 k2 a1 t196 y207 x8_1 (wrap64 (x9_2 + 1)) a0_0 a0_1 l0_2) = some (r1, r2) := by first | (rw [hy207]; with_reducible exact H) | (have H2_ := (Option.bind_some _ _).symm.trans H; rw [hy207]; with_reducible exact H2_) | (have H2_ := (Option.bind_some _ _).symm.trans H; with_reducible exact H2_) | with_reducible exact H | (rw [hy207]; exact H) | exact H
                     have Ny207 := Aside0.mk hy207
                     clear hy207
                     have H' := Aside0.mk H
                     clear H
                     have hcz35_0 : wr.cell? ⟨gb195, 0, none⟩ = some (.int .i64 a0_0) := (blk_cell BK195.out 0).trans rfl
                     have hcz35_1 : wr.cell? ⟨gb195, 1, none⟩ = some (.int .i64 a0_1) := (blk_cell BK195.out 1).trans rfl
                     have hcz35_2 : wr.cell? ⟨gb195, 2, none⟩ = some (.slice A0_2 l0_2.length c0_2) := (blk_cell BK195.out 2).trans rfl
                     have hfz35_0 := blk_frozen BK195.out 0
                     have hfz35_1 := blk_frozen BK195.out 1
                     have hfz35_2 := blk_frozen BK195.out 2
                     have p205 : 0 ≤ (x8_1 : Int) := oda
                     have q205 : x8_1 < (t196.length : Int) := oda
                     obtain ⟨ad205, e205, hx205_0⟩ := Kd.at_string (Kd.R_reads' HO_6.out).2.2 x8_1 p205 q205
                     obtain rfl : ad204 = ad205 := (by injection e205)
                     replace p205 := eq_true p205
                     replace q205 := eq_true q205
                     have p26 : 0 ≤ (x9_2 : Int) := oda
                     have q26 : x9_2 < ((rdOf ByteArray.empty t196 x8_1).size : Int) := oda
                     have hx26 := bt_at (rdOf ByteArray.empty t196 x8_1) x9_2
                     replace p26 := eq_true p26
                     replace q26 := eq_true q26
                     obtain ⟨Ao36, co36, eo36⟩ := Kd.R_slice HO_7.out
                     subst eo36
                     try go_wp2
                     have n0_ := Aside0.mk (Kd.R_drew HO_6.out)
                     have n1_ := Aside0.mk (Kd.R_drew HO_7.out)
                     have n2_ := Aside0.mk (blk_drew BK195.out)
                     have n3_ := Aside0.mk (below_drew1 HB.out)
                     clear HO_6
                     clear HO_7
                     clear BK195
                     clear HB
                     have HO_6 := n0_
                     have HO_7 := n1_
                     have BK195 := n2_
                     have HB := n3_
                     clear n0_ n1_ n2_ n3_
                     have p206 : 0 ≤ ((ji29) : Int) := oda
                     have q206 : (ji29) < (x7_2.length : Int) := oda
                     obtain ⟨ad206, e206, hx206_0⟩ := Kd.at_int (Kd.R_reads' HO_7.out).2.2 (ji29) p206 q206
                     cases e206
                     replace p206 := eq_true p206
                     replace q206 := eq_true q206
                     have p34 : 0 ≤ ((ji29) : Int) := oda
                     have q34 : ((ji29) : Int) < ((x7_2.length : Int) : Int) := oda
                     obtain ⟨go34, co34, eo34, gb34, gl34, cl34, HG34⟩ := Kd.R_form HO_7.out (by omega)
                     (first | cases eo34 | (injection eo34 with ea_ en_ ec_; (first | subst ea_ | (injection ea_ with ea_; subst ea_)); subst ec_; clear en_))
                     have GB34 := Aside0.mk gb34
                     have GG34 := Aside0.mk HG34
                     clear gb34 gl34 HG34
                     (first | simp only [add_plain] at hx206_0 | skip)
                     obtain ⟨hx34_0, hf34_0⟩ := Kd.R_celln 0 HO_7.out ((ji29) : Int) p34 q34
                     replace p34 := eq_true p34
                     replace q34 := eq_true q34
                     have HP38 := Kd.R_putn HO_7.out ((ji29) : Int) (Go.bits .or .i64 (rd x7_2 (ji29)) (ji33))
                     rw [← Ny207.out] at HP38
                     have HQ38 := Aside0.mk HP38
                     clear HP38
                     refine start_ (n := 17) (S := fun w' => w'.cell? ⟨gb195, 0, none⟩ = some (.int .i64 a0_0) ∧ w'.cell? ⟨gb195, 1, none⟩ = some (.int .i64 a0_1) ∧ w'.cell? ⟨gb195, 2, none⟩ = some (.slice A0_2 l0_2.length c0_2) ∧ w'.cell? ⟨go34, ((ji29)).toNat, none⟩ = some (.int .i64 (rd x7_2 (ji29)))) (ds := [16]) #[false, false, false, false, false, false, false, false, false, false, false, false, false, false, false, false, false] (by kernel_rfl) rfl rfl ⟨(blk_cell BK195.out 0).trans rfl, (blk_cell BK195.out 1).trans rfl, (blk_cell BK195.out 2).trans rfl, hx206_0⟩ (fun hHeld => ?_); refine with_tabW spec_l09Read.tab14 spec_l09Read.bits14 (fun HT_ HW_ => ?_)
                     generalize wr.drew = w37 at HO_6 HO_7 BK195 HB GG34 HQ38 hf34_0 hx206_0 hx34_0 hHeld ⊢
                     refine pure_ (i := 0) (N := some 58) (v := ?_) (a' := ?_) (flg_ 17 1) rfl rfl (any_of HT_.out (by kernel_rfl)) (fun _ _ _ h => h) (Or.inl ⟨by rfl, ?_⟩) ?_ ?_
                     rotate_left; (· (intro w'; go_simp; with_reducible rfl)); rotate_left; (· (simp only [Act.put, sz_, s0_, s1_, i64_w, i32_w]; rfl))
                     refine pure_ (i := 1) (N := some 59) (v := ?_) (a' := ?_) (flg_ 17 3) rfl rfl (any_of HT_.out (by kernel_rfl)) (fun _ _ _ h => h) (Or.inl ⟨by rfl, ?_⟩) ?_ ?_
                     rotate_left; (· (intro w'; go_simp; with_reducible rfl)); rotate_left; (· (simp only [Act.put, sz_, s0_, s1_, i64_w, i32_w]; rfl))
                     refine pure_ (i := 2) (N := some 60) (v := ?_) (a' := ?_) (flg_ 17 7) rfl rfl (any_of HT_.out (by kernel_rfl)) (fun _ _ _ h => h) (Or.inl ⟨by rfl, ?_⟩) ?_ ?_
                     rotate_left; (· (intro w'; go_simp; with_reducible rfl)); rotate_left; (· (simp only [Act.put, sz_, s0_, s1_, i64_w, i32_w]; rfl))
                     refine pure_ (i := 3) (N := some 61) (v := ?_) (a' := ?_) (flg_ 17 15) rfl rfl (any_of HT_.out (by kernel_rfl)) (fun _ _ _ h => h) (Or.inl ⟨by rfl, ?_⟩) ?_ ?_
                     rotate_left; (· (intro w'; go_simp; with_reducible rfl)); rotate_left; (· (simp only [Act.put, sz_, s0_, s1_, i64_w, i32_w]; rfl))
                     refine pure_ (i := 4) (N := some 62) (v := ?_) (a' := ?_) (flg_ 17 31) rfl rfl (any_of HT_.out (by kernel_rfl)) (fun _ _ _ h => h) (Or.inl ⟨by rfl, ?_⟩) ?_ ?_
                     rotate_left; (· (intro w'; go_simp; with_reducible rfl)); rotate_left; (· (simp only [Act.put, sz_, s0_, s1_, i64_w, i32_w]; rfl))
                     refine pure_ (i := 6) (N := some 64) (v := ?_) (a' := ?_) (flg_ 17 95) rfl rfl (any_of HT_.out (by kernel_rfl)) (fun _ _ _ h => h) (Or.inl ⟨by rfl, ?_⟩) ?_ ?_
                     rotate_left; (· (intro w'; go_simp; with_reducible rfl)); rotate_left; (· (simp only [Act.put, sz_, s0_, s1_, i64_w, i32_w]; rfl))
                     refine pure_ (i := 7) (N := some 65) (v := ?_) (a' := ?_) (flg_ 17 223) rfl rfl (any_of HT_.out (by kernel_rfl)) (fun _ _ _ h => h) (Or.inl ⟨by rfl, ?_⟩) ?_ ?_
                     rotate_left; (· (intro w'; go_simp; with_reducible rfl)); rotate_left; (· (simp only [Act.put, sz_, s0_, s1_, i64_w, i32_w]; rfl))
                     refine pure_ (i := 10) (N := some 68) (v := ?_) (a' := ?_) (flg_ 17 1247) rfl rfl (any_of HT_.out (by kernel_rfl)) (fun _ _ _ h => h) (Or.inl ⟨by rfl, ?_⟩) ?_ ?_
                     rotate_left; (· (intro w'; go_simp; with_reducible rfl)); rotate_left; (· (simp only [Act.put, sz_, s0_, s1_, i64_w, i32_w]; rfl))
                     refine take_ (i := 5) (N := some 63) (v := ?_) (a' := ?_) (flg_ 17 1279) rfl rfl (take_ofW HT_.out HW_.out (by kernel_rfl)) (fun _ _ _ h => h) (Or.inl ⟨by rfl, ?_⟩) hHeld ?_ ?_
                     rotate_left; (· (rintro w' ⟨s0, s1, s2, s3⟩; go_simp; with_reducible rfl)); rotate_left; (· (simp only [Act.put, sz_, s0_, s1_, i64_w, i32_w]; rfl))
                     refine take_ (i := 8) (N := some 66) (v := ?_) (a' := ?_) (flg_ 17 1535) rfl rfl (take_ofW HT_.out HW_.out (by kernel_rfl)) (fun _ _ _ h => h) (Or.inl ⟨by rfl, ?_⟩) hHeld ?_ ?_
                     rotate_left; (· (rintro w' ⟨s0, s1, s2, s3⟩; go_simp; with_reducible rfl)); rotate_left; (· (simp only [Act.put, sz_, s0_, s1_, i64_w, i32_w]; rfl))
                     refine pure_ (i := 9) (N := some 67) (v := ?_) (a' := ?_) (flg_ 17 2047) rfl rfl (any_of HT_.out (by kernel_rfl)) (fun _ _ _ h => h) (Or.inl ⟨by rfl, ?_⟩) ?_ ?_
                     rotate_left; (· (intro w'; go_simp; with_reducible rfl)); rotate_left; (· (simp only [Act.put, sz_, s0_, s1_, i64_w, i32_w]; rfl))
                     refine pure_ (i := 11) (N := some 69) (v := ?_) (a' := ?_) (flg_ 17 4095) rfl rfl (any_of HT_.out (by kernel_rfl)) (fun _ _ _ h => h) (Or.inl ⟨by rfl, ?_⟩) ?_ ?_
                     rotate_left; (· (intro w'; go_simp; with_reducible rfl)); rotate_left; (· (simp only [Act.put, sz_, s0_, s1_, i64_w, i32_w]; rfl))
                     refine pure_ (i := 12) (N := some 70) (v := ?_) (a' := ?_) (flg_ 17 8191) rfl rfl (any_of HT_.out (by kernel_rfl)) (fun _ _ _ h => h) (Or.inl ⟨by rfl, ?_⟩) ?_ ?_
                     rotate_left; (· (intro w'; go_simp; with_reducible rfl)); rotate_left; (· (simp only [Act.put, sz_, s0_, s1_, i64_w, i32_w]; rfl))
                     refine pure_ (i := 13) (N := some 71) (v := ?_) (a' := ?_) (flg_ 17 16383) rfl rfl (any_of HT_.out (by kernel_rfl)) (fun _ _ _ h => h) (Or.inl ⟨by rfl, ?_⟩) ?_ ?_
                     rotate_left; (· (intro w'; go_simp; with_reducible rfl)); rotate_left; (· (simp only [Act.put, sz_, s0_, s1_, i64_w, i32_w]; rfl))
                     refine pure_ (i := 14) (N := some 72) (v := ?_) (a' := ?_) (flg_ 17 32767) rfl rfl (any_of HT_.out (by kernel_rfl)) (fun _ _ _ h => h) (Or.inl ⟨by rfl, ?_⟩) ?_ ?_
                     rotate_left; (· (intro w'; go_simp; with_reducible rfl)); rotate_left; (· (simp only [Act.put, sz_, s0_, s1_, i64_w, i32_w]; rfl))
                     refine pure_ (i := 15) (N := some 73) (v := ?_) (a' := ?_) (flg_ 17 65535) rfl rfl (any_of HT_.out (by kernel_rfl)) (fun _ _ _ h => h) (Or.inl ⟨by rfl, ?_⟩) ?_ ?_
                     rotate_left; (· (intro w'; go_simp; with_reducible rfl)); rotate_left; (· (simp only [Act.put, sz_, s0_, s1_, i64_w, i32_w]; rfl))
                     refine last_ (i := 16) (N := none) (flg_ 17 131071) rfl rfl (one_of HT_.out (by kernel_rfl)) (by decide) (fun K hK => ?_)
                     refine skip_ (w1 := ?_) (by rfl) rfl ?_ ?_
                     rotate_left
                     ·go_simp
                      rfl
                     refine hK.out _ _ ?_
                     clear hK K
                     refine done_ (done_of HT_.out (by kernel_rfl)) ?_
                     try go_wp2
                     go_roundg k2
                     case measure => have := HK1.out; have := HK2.out; omega
                     case rel => exact ⟨(y207), (wrap64 (x9_2 + 1)), (by first | rfl | (simp; done) | (simp [*]; done)), H', ⟨by have := HK1.out; have := HK2.out; omega⟩, ⟨by (with_reducible repeat (first | apply Kd.R_alloc | apply Kd.R_drewN | apply Kd.R_drew)); exact Kd.R_mono (Kd.R_far (p := ⟨go34, ((ji29) : Int).toNat, none⟩) (Kd.R_types HO_6.out GG34.out (by decide)) (fun _ hk => hk.2) (.int .i64 (Go.bits .or .i64 (rd x7_2 (ji29)) (ji33)))) (fun _ hk => trivial)⟩, ⟨by (with_reducible repeat (first | apply Kd.R_alloc | apply Kd.R_drewN | apply Kd.R_drew)); exact HQ38.out⟩, ⟨by (with_reducible repeat (first | refine blk_drewN ?_ _ | refine blk_drew ?_ | refine blk_alloc ?_ _)); refine blk_far ?_ (by have h_ := Kd.R_ne HO_7.out BK195.out (by decide); intro e_; exact h_ (by rw [e_]; rfl)) _; (with_reducible repeat (first | refine blk_drewN ?_ _ | refine blk_drew ?_ | refine blk_alloc ?_ _)); exact BK195.out⟩, ⟨by repeat (first | (with_reducible first | exact HB.out | apply below_alloc | apply pw_below_drewN | apply below_drew1 | refine below_set ?_ GB34.out | refine below_set ?_ GE195.out) | exact HB.out)⟩⟩
                    ·rw [if_neg c32] at H
                     exact absurd H (by simp)
                   ·rw [if_neg c30] at H
                    exact absurd H (by simp)
                  ·rw [if_neg c28] at H
                   have c28b0 : decide ((wrap64 ((wrap64 (bt (rdOf ByteArray.empty t196 x8_1) x9_2)) - 97)) < (x7_2.length : Int)) = false := decide_eq_false c28
                   clear c28
                   have H' := Aside0.mk H
                   clear H
                   have hcz39_0 : wr.cell? ⟨gb195, 0, none⟩ = some (.int .i64 a0_0) := (blk_cell BK195.out 0).trans rfl
                   have hcz39_1 : wr.cell? ⟨gb195, 1, none⟩ = some (.int .i64 a0_1) := (blk_cell BK195.out 1).trans rfl
                   have hcz39_2 : wr.cell? ⟨gb195, 2, none⟩ = some (.slice A0_2 l0_2.length c0_2) := (blk_cell BK195.out 2).trans rfl
                   have hfz39_0 := blk_frozen BK195.out 0
                   have hfz39_1 := blk_frozen BK195.out 1
                   have hfz39_2 := blk_frozen BK195.out 2
                   have p205 : 0 ≤ (x8_1 : Int) := oda
                   have q205 : x8_1 < (t196.length : Int) := oda
                   obtain ⟨ad205, e205, hx205_0⟩ := Kd.at_string (Kd.R_reads' HO_6.out).2.2 x8_1 p205 q205
                   obtain rfl : ad204 = ad205 := (by injection e205)
                   replace p205 := eq_true p205
                   replace q205 := eq_true q205
                   have p26 : 0 ≤ (x9_2 : Int) := oda
                   have q26 : x9_2 < ((rdOf ByteArray.empty t196 x8_1).size : Int) := oda
                   have hx26 := bt_at (rdOf ByteArray.empty t196 x8_1) x9_2
                   replace p26 := eq_true p26
                   replace q26 := eq_true q26
                   obtain ⟨Ao40, co40, eo40⟩ := Kd.R_slice HO_7.out
                   subst eo40
                   go_wp2
                   go_roundg k2
                   case measure => have := HK1.out; have := HK2.out; omega
                   case rel => exact ⟨(x7_2), (wrap64 (x9_2 + 1)), (by first | rfl | (simp; done) | (simp [*]; done)), H', ⟨by have := HK1.out; have := HK2.out; omega⟩, ⟨by (with_reducible repeat (first | apply Kd.R_alloc | apply Kd.R_drewN | apply Kd.R_drew)); exact HO_6.out⟩, ⟨by (with_reducible repeat (first | apply Kd.R_alloc | apply Kd.R_drewN | apply Kd.R_drew)); exact HO_7.out⟩, ⟨by (with_reducible repeat (first | refine blk_drewN ?_ _ | refine blk_drew ?_ | refine blk_alloc ?_ _)); exact BK195.out⟩, ⟨by repeat (first | (with_reducible first | exact HB.out | apply below_alloc | apply pw_below_drewN | apply below_drew1 | refine below_set ?_ GE195.out) | exact HB.out)⟩⟩
                 ·rw [if_neg c27] at H
                  have c27b0 : decide (0 ≤ (wrap64 ((wrap64 (bt (rdOf ByteArray.empty t196 x8_1) x9_2)) - 97))) = false := decide_eq_false c27
                  clear c27
                  have H' := Aside0.mk H
                  clear H
                  have hcz41_0 : wr.cell? ⟨gb195, 0, none⟩ = some (.int .i64 a0_0) := (blk_cell BK195.out 0).trans rfl
                  have hcz41_1 : wr.cell? ⟨gb195, 1, none⟩ = some (.int .i64 a0_1) := (blk_cell BK195.out 1).trans rfl
                  have hcz41_2 : wr.cell? ⟨gb195, 2, none⟩ = some (.slice A0_2 l0_2.length c0_2) := (blk_cell BK195.out 2).trans rfl
                  have hfz41_0 := blk_frozen BK195.out 0
                  have hfz41_1 := blk_frozen BK195.out 1
                  have hfz41_2 := blk_frozen BK195.out 2
                  have p205 : 0 ≤ (x8_1 : Int) := oda
                  have q205 : x8_1 < (t196.length : Int) := oda
                  obtain ⟨ad205, e205, hx205_0⟩ := Kd.at_string (Kd.R_reads' HO_6.out).2.2 x8_1 p205 q205
                  obtain rfl : ad204 = ad205 := (by injection e205)
                  replace p205 := eq_true p205
                  replace q205 := eq_true q205
                  have p26 : 0 ≤ (x9_2 : Int) := oda
                  have q26 : x9_2 < ((rdOf ByteArray.empty t196 x8_1).size : Int) := oda
                  have hx26 := bt_at (rdOf ByteArray.empty t196 x8_1) x9_2
                  replace p26 := eq_true p26
                  replace q26 := eq_true q26
                  go_wp2
                  go_roundg k2
                  case measure => have := HK1.out; have := HK2.out; omega
                  case rel => exact ⟨(x7_2), (wrap64 (x9_2 + 1)), (by first | rfl | (simp; done) | (simp [*]; done)), H', ⟨by have := HK1.out; have := HK2.out; omega⟩, ⟨by (with_reducible repeat (first | apply Kd.R_alloc | apply Kd.R_drewN | apply Kd.R_drew)); exact HO_6.out⟩, ⟨by (with_reducible repeat (first | apply Kd.R_alloc | apply Kd.R_drewN | apply Kd.R_drew)); exact HO_7.out⟩, ⟨by (with_reducible repeat (first | refine blk_drewN ?_ _ | refine blk_drew ?_ | refine blk_alloc ?_ _)); exact BK195.out⟩, ⟨by repeat (first | (with_reducible first | exact HB.out | apply below_alloc | apply pw_below_drewN | apply below_drew1 | refine below_set ?_ GE195.out) | exact HB.out)⟩⟩
                ·rw [if_neg c25] at H
                 exact absurd H (by simp)
               ·rw [if_neg c24] at H
                exact absurd H (by simp)
              ·rw [if_neg c23] at H
               exact absurd H (by simp)
             ·rw [if_neg c22] at H
              exact absurd H (by simp)
            ·rw [if_neg c21] at H
             have c21b0 : decide (x9_2 < a0_0) = false := decide_eq_false c21
             clear c21
             have H' := Aside0.mk H
             clear H
             have hcz42_0 : wr.cell? ⟨gb195, 0, none⟩ = some (.int .i64 a0_0) := (blk_cell BK195.out 0).trans rfl
             have hcz42_1 : wr.cell? ⟨gb195, 1, none⟩ = some (.int .i64 a0_1) := (blk_cell BK195.out 1).trans rfl
             have hcz42_2 : wr.cell? ⟨gb195, 2, none⟩ = some (.slice A0_2 l0_2.length c0_2) := (blk_cell BK195.out 2).trans rfl
             have hfz42_0 := blk_frozen BK195.out 0
             have hfz42_1 := blk_frozen BK195.out 1
             have hfz42_2 := blk_frozen BK195.out 2
             go_wp2
             go_roundg k2
             case measure => have := HK1.out; have := HK2.out; omega
             case rel => exact ⟨(x7_2), (wrap64 (x8_1 + 1)), (by first | rfl | (simp; done) | (simp [*]; done)), H', ⟨by have := HK1.out; have := HK2.out; omega⟩, ⟨by (with_reducible repeat (first | apply Kd.R_alloc | apply Kd.R_drewN | apply Kd.R_drew)); exact HO_6.out⟩, ⟨by (with_reducible repeat (first | apply Kd.R_alloc | apply Kd.R_drewN | apply Kd.R_drew)); exact HO_7.out⟩, ⟨by (with_reducible repeat (first | refine blk_drewN ?_ _ | refine blk_drew ?_ | refine blk_alloc ?_ _)); exact BK195.out⟩, ⟨by repeat (first | (with_reducible first | exact HB.out | apply below_alloc | apply pw_below_drewN | apply below_drew1 | refine below_set ?_ GE195.out) | exact HB.out)⟩⟩
         ·rw [if_neg c18] at H
          have c18b0 : (((rdOf ByteArray.empty t196 x8_1).size : Int) == a0_0) = false := beq_eq_false_iff_ne.mpr c18
          have c18b1 : (((rdOf ByteArray.empty t196 x8_1).size : Int) != a0_0) = true := bne_iff_ne.mpr c18
          simp only [Option.some.injEq, Prod.mk.injEq] at H
          obtain ⟨rfl, rfl⟩ := H
          have hcz43_0 : wr.cell? ⟨gb195, 0, none⟩ = some (.int .i64 a0_0) := (blk_cell BK195.out 0).trans rfl
          have hcz43_1 : wr.cell? ⟨gb195, 1, none⟩ = some (.int .i64 a0_1) := (blk_cell BK195.out 1).trans rfl
          have hcz43_2 : wr.cell? ⟨gb195, 2, none⟩ = some (.slice A0_2 l0_2.length c0_2) := (blk_cell BK195.out 2).trans rfl
          have hfz43_0 := blk_frozen BK195.out 0
          have hfz43_1 := blk_frozen BK195.out 1
          have hfz43_2 := blk_frozen BK195.out 2
          try go_wp2
          have n0_ := Aside0.mk (Kd.R_drew HO_6.out)
          have n1_ := Aside0.mk (Kd.R_drew HO_7.out)
          have n2_ := Aside0.mk (blk_drew BK195.out)
          have n3_ := Aside0.mk (below_drew1 HB.out)
          clear HO_6
          clear HO_7
          clear BK195
          clear HB
          have HO_6 := n0_
          have HO_7 := n1_
          have BK195 := n2_
          have HB := n3_
          clear n0_ n1_ n2_ n3_
          have p204 : 0 ≤ (x8_1 : Int) := oda
          have q204 : x8_1 < (t196.length : Int) := oda
          obtain ⟨ad204, e204, hx204_0⟩ := Kd.at_string (Kd.R_reads' HO_6.out).2.2 x8_1 p204 q204
          cases e204
          replace p204 := eq_true p204
          replace q204 := eq_true q204
          refine start_ (n := 8) (S := fun w' => w'.cell? ⟨gb195, 0, none⟩ = some (.int .i64 a0_0) ∧ w'.cell? ⟨gb195, 1, none⟩ = some (.int .i64 a0_1) ∧ w'.cell? ⟨gb195, 2, none⟩ = some (.slice A0_2 l0_2.length c0_2) ∧ w'.cell? (ad204.add (x8_1).toNat) = some (.string (rdOf ByteArray.empty t196 x8_1))) (ds := []) #[false, false, false, false, false, false, false, false] (by kernel_rfl) rfl rfl ⟨(blk_cell BK195.out 0).trans rfl, (blk_cell BK195.out 1).trans rfl, (blk_cell BK195.out 2).trans rfl, hx204_0⟩ (fun hHeld => ?_); refine with_tabW spec_l09Read.tab7 spec_l09Read.bits7 (fun HT_ HW_ => ?_)
          generalize wr.drew = w44 at HO_6 HO_7 BK195 HB hx204_0 hHeld ⊢
          refine pure_ (i := 0) (N := some 28) (v := ?_) (a' := ?_) (flg_ 8 1) rfl rfl (any_of HT_.out (by kernel_rfl)) (fun _ _ _ h => h) (Or.inl ⟨by rfl, ?_⟩) ?_ ?_
          rotate_left; (· (intro w'; go_simp; with_reducible rfl)); rotate_left; (· (simp only [Act.put, sz_, s0_, s1_, i64_w, i32_w]; rfl))
          refine pure_ (i := 1) (N := some 29) (v := ?_) (a' := ?_) (flg_ 8 3) rfl rfl (any_of HT_.out (by kernel_rfl)) (fun _ _ _ h => h) (Or.inl ⟨by rfl, ?_⟩) ?_ ?_
          rotate_left; (· (intro w'; go_simp; with_reducible rfl)); rotate_left; (· (simp only [Act.put, sz_, s0_, s1_, i64_w, i32_w]; rfl))
          refine pure_ (i := 2) (N := some 30) (v := ?_) (a' := ?_) (flg_ 8 7) rfl rfl (any_of HT_.out (by kernel_rfl)) (fun _ _ _ h => h) (Or.inl ⟨by rfl, ?_⟩) ?_ ?_
          rotate_left; (· (intro w'; go_simp; with_reducible rfl)); rotate_left; (· (simp only [Act.put, sz_, s0_, s1_, i64_w, i32_w]; rfl))
          refine pure_ (i := 5) (N := some 33) (v := ?_) (a' := ?_) (flg_ 8 39) rfl rfl (any_of HT_.out (by kernel_rfl)) (fun _ _ _ h => h) (Or.inl ⟨by rfl, ?_⟩) ?_ ?_
          rotate_left; (· (intro w'; go_simp; with_reducible rfl)); rotate_left; (· (simp only [Act.put, sz_, s0_, s1_, i64_w, i32_w]; rfl))
          refine take_ (i := 3) (N := some 31) (v := ?_) (a' := ?_) (flg_ 8 47) rfl rfl (take_ofW HT_.out HW_.out (by kernel_rfl)) (fun _ _ _ h => h) (Or.inl ⟨by rfl, ?_⟩) hHeld ?_ ?_
          rotate_left; (· (rintro w' ⟨s0, s1, s2, s3⟩; go_simp; with_reducible rfl)); rotate_left; (· (simp only [Act.put, sz_, s0_, s1_, i64_w, i32_w]; rfl))
          refine pure_ (i := 4) (N := some 32) (v := ?_) (a' := ?_) (flg_ 8 63) rfl rfl (any_of HT_.out (by kernel_rfl)) (fun _ _ _ h => h) (Or.inl ⟨by rfl, ?_⟩) ?_ ?_
          rotate_left; (· (intro w'; go_simp; with_reducible rfl)); rotate_left; (· (simp only [Act.put, sz_, s0_, s1_, i64_w, i32_w]; rfl))
          refine take_ (i := 6) (N := some 34) (v := ?_) (a' := ?_) (flg_ 8 127) rfl rfl (take_ofW HT_.out HW_.out (by kernel_rfl)) (fun _ _ _ h => h) (Or.inl ⟨by rfl, ?_⟩) hHeld ?_ ?_
          rotate_left; (· (rintro w' ⟨s0, s1, s2, s3⟩; go_simp; with_reducible rfl)); rotate_left; (· (simp only [Act.put, sz_, s0_, s1_, i64_w, i32_w]; rfl))
          refine pure_ (i := 7) (N := some 35) (v := ?_) (a' := ?_) (flg_ 8 255) rfl rfl (any_of HT_.out (by kernel_rfl)) (fun _ _ _ h => h) (Or.inl ⟨by rfl, ?_⟩) ?_ ?_
          rotate_left; (· (intro w'; go_simp; with_reducible rfl)); rotate_left; (· (simp only [Act.put, sz_, s0_, s1_, i64_w, i32_w]; rfl))
          refine done_ (done_of HT_.out (by kernel_rfl)) ?_
          try go_wp2
          go_ret2
          exact ⟨_, by first | rfl | (simp [errW_none, errW_some] <;> rfl) | (simp [*, errW_none, errW_some] <;> rfl), by first | exact Kd.R_nil _ _ _ _ _ | exact Kd.N_nil _ _ _ _ _ | exact Kd.V_nil _ _ _ _ _ | exact Kd.Q_nil _ _ _ _ _ | exact Kd.S_nil _ _ _ _ _, by repeat (first | (with_reducible first | exact HB.out | apply below_alloc | apply pw_below_drewN | apply below_drew1 | refine below_set ?_ GE195.out) | exact HB.out)⟩
        ·rw [if_neg c17] at H
         exact absurd H (by simp)
       ·rw [if_neg c16] at H
        exact absurd H (by simp)
      ·rw [if_neg c15] at H
       have c15b0 : decide (x8_1 < a0_1) = false := decide_eq_false c15
       clear c15
       replace H := Option.bind_eq_some_iff.mp H
       obtain ⟨t202, A450, H⟩ := H
       replace H : (if t202 = true then ((spec_l09Text.f k1 a0_0 a0_1 l0_2 x7_1).bind fun t203 => (some (x7_1, (t203.toList == a1.toList)))) else (some (x7_1, false))) = some (r1, r2) := H
       have A45 := Aside0.mk A450
       clear A450
       by_cases c46 : t202 = true
       ·subst c46
        have H1 : ((spec_l09Text.f k1 a0_0 a0_1 l0_2 x7_1).bind fun t203 => (some (x7_1, (t203.toList == a1.toList)))) = some (r1, r2) := by rw [if_pos rfl] at H; exact H
        clear H
        have H := H1
        clear H1
        replace H := Option.bind_eq_some_iff.mp H
        obtain ⟨t203, A470, H⟩ := H
        replace H : (some (x7_1, (t203.toList == a1.toList))) = some (r1, r2) := H
        have A47 := Aside0.mk A470
        clear A470
        simp only [Option.some.injEq, Prod.mk.injEq] at H
        obtain ⟨rfl, rfl⟩ := H
        have hcz48_0 : wr.cell? ⟨gb195, 0, none⟩ = some (.int .i64 a0_0) := (blk_cell BK195.out 0).trans rfl
        have hcz48_1 : wr.cell? ⟨gb195, 1, none⟩ = some (.int .i64 a0_1) := (blk_cell BK195.out 1).trans rfl
        have hcz48_2 : wr.cell? ⟨gb195, 2, none⟩ = some (.slice A0_2 l0_2.length c0_2) := (blk_cell BK195.out 2).trans rfl
        have hfz48_0 := blk_frozen BK195.out 0
        have hfz48_1 := blk_frozen BK195.out 1
        have hfz48_2 := blk_frozen BK195.out 2
        obtain ⟨Ao49, co49, eo49⟩ := Kd.R_slice HO_7.out
        subst eo49
        go_wp2_with (first | ((with_reducible refine gate_callee (f := 22) rfl ?_); refine goesA_ (some 77) rfl rfl Tryd.func22 (by kernel_rfl) rfl #[.agg #[.int .i64 a0_0, .int .i64 a0_1, .slice A0_2 l0_2.length c0_2], .slice Ao49 x7_1.length co49] rfl ?_; (with_reducible refine (spec_l09Fleet.calls k1 a0_0 a0_1 _ _ l0_2 _ _ x7_1 true _ ?side1 ?side2 ?side3 ?side4 A45.out).mono ?_); (case side1 => repeat (first | exact (Kd.C_below HR0_2.out HB.out) | (with_reducible refine Kd.C_alloc ?_ _) | (with_reducible refine Kd.C_drewN ?_ _) | (with_reducible refine Kd.C_drew ?_))); (case side2 => exact HC0_2.out); (case side3 => repeat (first | exact (Kd.R_reads' HO_7.out).2.2 | (with_reducible refine Kd.C_alloc ?_ _) | (with_reducible refine Kd.C_drewN ?_ _) | (with_reducible refine Kd.C_drew ?_))); (case side4 => exact (Kd.R_reads' HO_7.out).2.1); rintro e w50 ⟨rfl, hb⟩; refine ⟨_, rfl, ?_⟩; have n0_ := Aside0.mk (Kd.R_below (by (with_reducible repeat (first | apply Kd.R_alloc | apply Kd.R_drewN | apply Kd.R_drew)); exact HO_6.out) hb); have n1_ := Aside0.mk (Kd.R_below (by (with_reducible repeat (first | apply Kd.R_alloc | apply Kd.R_drewN | apply Kd.R_drew)); exact HO_7.out) hb); have n2_ := Aside0.mk (blk_below (g := gb195) (o := .cells #[.int .i64 a0_0, .int .i64 a0_1, .slice A0_2 l0_2.length c0_2] 28 (0, 0)) (by (with_reducible repeat (first | refine blk_drewN ?_ _ | refine blk_drew ?_ | refine blk_alloc ?_ _)); exact BK195.out) hb); have n3_ := Aside0.mk (below_step (by repeat (first | (with_reducible first | exact HB.out | apply below_alloc | apply pw_below_drewN | apply below_drew1 | refine below_set ?_ GE195.out) | exact HB.out)) hb); clear HO_6; clear HO_7; clear BK195; clear HB; have HO_6 := n0_; have HO_7 := n1_; have BK195 := n2_; have HB := n3_; clear n0_ n1_ n2_ n3_; (try clear hb); (try clear hb2); (try clear hk); (try clear hi); have hcz51_0 : w50.cell? ⟨gb195, 0, none⟩ = some (.int .i64 a0_0) := (blk_cell BK195.out 0).trans rfl; have hcz51_1 : w50.cell? ⟨gb195, 1, none⟩ = some (.int .i64 a0_1) := (blk_cell BK195.out 1).trans rfl; have hcz51_2 : w50.cell? ⟨gb195, 2, none⟩ = some (.slice A0_2 l0_2.length c0_2) := (blk_cell BK195.out 2).trans rfl; have hfz51_0 := blk_frozen BK195.out 0; have hfz51_1 := blk_frozen BK195.out 1; have hfz51_2 := blk_frozen BK195.out 2) | (go_at_call 23; (with_reducible refine (spec_l09Text.calls k1 a0_0 a0_1 _ _ l0_2 _ _ x7_1 t203 _ ?side1 ?side2 ?side3 ?side4 A47.out).mono ?_); (case side1 => repeat (first | exact (Kd.C_below HR0_2.out HB.out) | (with_reducible refine Kd.C_alloc ?_ _) | (with_reducible refine Kd.C_drewN ?_ _) | (with_reducible refine Kd.C_drew ?_))); (case side2 => exact HC0_2.out); (case side3 => repeat (first | exact (Kd.R_reads' HO_7.out).2.2 | (with_reducible refine Kd.C_alloc ?_ _) | (with_reducible refine Kd.C_drewN ?_ _) | (with_reducible refine Kd.C_drew ?_))); (case side4 => exact (Kd.R_reads' HO_7.out).2.1); rintro e w52 ⟨rfl, hb⟩; have n0_ := Aside0.mk (Kd.R_below (by (with_reducible repeat (first | apply Kd.R_alloc | apply Kd.R_drewN | apply Kd.R_drew)); exact HO_6.out) hb); have n1_ := Aside0.mk (Kd.R_below (by (with_reducible repeat (first | apply Kd.R_alloc | apply Kd.R_drewN | apply Kd.R_drew)); exact HO_7.out) hb); have n2_ := Aside0.mk (blk_below (g := gb195) (o := .cells #[.int .i64 a0_0, .int .i64 a0_1, .slice A0_2 l0_2.length c0_2] 28 (0, 0)) (by (with_reducible repeat (first | refine blk_drewN ?_ _ | refine blk_drew ?_ | refine blk_alloc ?_ _)); exact BK195.out) hb); have n3_ := Aside0.mk (below_step (by repeat (first | (with_reducible first | exact HB.out | apply below_alloc | apply pw_below_drewN | apply below_drew1 | refine below_set ?_ GE195.out) | exact HB.out)) hb); clear HO_6; clear HO_7; clear BK195; clear HB; have HO_6 := n0_; have HO_7 := n1_; have BK195 := n2_; have HB := n3_; clear n0_ n1_ n2_ n3_; (try clear hb); (try clear hb2); (try clear hk); (try clear hi)))
        go_ret2
        exact ⟨_, by first | rfl | (simp [errW_none, errW_some] <;> rfl) | (simp [*, errW_none, errW_some] <;> rfl), by (with_reducible repeat (first | apply Kd.R_alloc | apply Kd.R_drewN | apply Kd.R_drew)); exact HO_7.out, by repeat (first | (with_reducible first | exact HB.out | apply below_alloc | apply pw_below_drewN | apply below_drew1 | refine below_set ?_ GE195.out) | exact HB.out)⟩
       ·replace c46 := Bool.eq_false_iff.mpr c46
        subst c46
        have H1 : (some (x7_1, false)) = some (r1, r2) := by rw [if_neg (show ¬ (false = true) by decide)] at H; exact H
        clear H
        have H := H1
        clear H1
        simp only [Option.some.injEq, Prod.mk.injEq] at H
        obtain ⟨rfl, rfl⟩ := H
        have hcz53_0 : wr.cell? ⟨gb195, 0, none⟩ = some (.int .i64 a0_0) := (blk_cell BK195.out 0).trans rfl
        have hcz53_1 : wr.cell? ⟨gb195, 1, none⟩ = some (.int .i64 a0_1) := (blk_cell BK195.out 1).trans rfl
        have hcz53_2 : wr.cell? ⟨gb195, 2, none⟩ = some (.slice A0_2 l0_2.length c0_2) := (blk_cell BK195.out 2).trans rfl
        have hfz53_0 := blk_frozen BK195.out 0
        have hfz53_1 := blk_frozen BK195.out 1
        have hfz53_2 := blk_frozen BK195.out 2
        obtain ⟨Ao54, co54, eo54⟩ := Kd.R_slice HO_7.out
        subst eo54
        go_wp2_with (first | ((with_reducible refine gate_callee (f := 22) rfl ?_); refine goesA_ (some 77) rfl rfl Tryd.func22 (by kernel_rfl) rfl #[.agg #[.int .i64 a0_0, .int .i64 a0_1, .slice A0_2 l0_2.length c0_2], .slice Ao54 x7_1.length co54] rfl ?_; (with_reducible refine (spec_l09Fleet.calls k1 a0_0 a0_1 _ _ l0_2 _ _ x7_1 false _ ?side1 ?side2 ?side3 ?side4 A45.out).mono ?_); (case side1 => repeat (first | exact (Kd.C_below HR0_2.out HB.out) | (with_reducible refine Kd.C_alloc ?_ _) | (with_reducible refine Kd.C_drewN ?_ _) | (with_reducible refine Kd.C_drew ?_))); (case side2 => exact HC0_2.out); (case side3 => repeat (first | exact (Kd.R_reads' HO_7.out).2.2 | (with_reducible refine Kd.C_alloc ?_ _) | (with_reducible refine Kd.C_drewN ?_ _) | (with_reducible refine Kd.C_drew ?_))); (case side4 => exact (Kd.R_reads' HO_7.out).2.1); rintro e w55 ⟨rfl, hb⟩; refine ⟨_, rfl, ?_⟩; have n0_ := Aside0.mk (Kd.R_below (by (with_reducible repeat (first | apply Kd.R_alloc | apply Kd.R_drewN | apply Kd.R_drew)); exact HO_6.out) hb); have n1_ := Aside0.mk (Kd.R_below (by (with_reducible repeat (first | apply Kd.R_alloc | apply Kd.R_drewN | apply Kd.R_drew)); exact HO_7.out) hb); have n2_ := Aside0.mk (blk_below (g := gb195) (o := .cells #[.int .i64 a0_0, .int .i64 a0_1, .slice A0_2 l0_2.length c0_2] 28 (0, 0)) (by (with_reducible repeat (first | refine blk_drewN ?_ _ | refine blk_drew ?_ | refine blk_alloc ?_ _)); exact BK195.out) hb); have n3_ := Aside0.mk (below_step (by repeat (first | (with_reducible first | exact HB.out | apply below_alloc | apply pw_below_drewN | apply below_drew1 | refine below_set ?_ GE195.out) | exact HB.out)) hb); clear HO_6; clear HO_7; clear BK195; clear HB; have HO_6 := n0_; have HO_7 := n1_; have BK195 := n2_; have HB := n3_; clear n0_ n1_ n2_ n3_; (try clear hb); (try clear hb2); (try clear hk); (try clear hi)))
        go_ret2
        exact ⟨_, by first | rfl | (simp [errW_none, errW_some] <;> rfl) | (simp [*, errW_none, errW_some] <;> rfl), by (with_reducible repeat (first | apply Kd.R_alloc | apply Kd.R_drewN | apply Kd.R_drew)); exact HO_7.out, by repeat (first | (with_reducible first | exact HB.out | apply below_alloc | apply pw_below_drewN | apply below_drew1 | refine below_set ?_ GE195.out) | exact HB.out)⟩
   ·rw [if_neg c6] at H
    have c6b0 : ((t196.length : Int) == a0_1) = false := beq_eq_false_iff_ne.mpr c6
    have c6b1 : ((t196.length : Int) != a0_1) = true := bne_iff_ne.mpr c6
    simp only [Option.some.injEq, Prod.mk.injEq] at H
    obtain ⟨rfl, rfl⟩ := H
    go_enter Tryd.func15, Tryd.ntmps15
    try go_wp2_with (first | ((with_reducible refine gate_dst (N := 2) rfl ?_); (try (refine gate_guard (by rfl) ?_; dsimp only)); refine box_event ?hg (N := 2) ?hd (cs := #[.int .i64 a0_0, .int .i64 a0_1, .slice A0_2 l0_2.length c0_2]) (t := 28) ?hr ?_; (case hd => rfl); (case hg => rfl); (case hr => first | (go_simp; done) | (go_simp; rfl)); intro gb195 hg w56 hbox hb; have n0_ := Aside0.mk (below_step hb_ hb); have n1_ := Aside0.mk (hbox); have n2_ := Aside0.mk ((by rw [hg]; exact (below_size hb_) : w.heap.size ≤ gb195)); have n3_ := Aside0.mk ((by rw [hg]; exact (below_size hb_) : w.heap.size ≤ gb195)); clear HB; have HB := n0_; have BK195 := n1_; have GW195 := n2_; have GE195 := n3_; clear n0_ n1_ n2_ n3_; clear hb hbox hg))
    have n0_ := Aside0.mk (blk_drew BK195.out)
    have n1_ := Aside0.mk (below_drew1 HB.out)
    clear BK195
    clear HB
    have BK195 := n0_
    have HB := n1_
    clear n0_ n1_
    refine start_ (n := 8) (S := fun w' => w'.cell? ⟨gb195, 0, none⟩ = some (.int .i64 a0_0) ∧ w'.cell? ⟨gb195, 1, none⟩ = some (.int .i64 a0_1) ∧ w'.cell? ⟨gb195, 2, none⟩ = some (.slice A0_2 l0_2.length c0_2)) (ds := []) #[false, false, false, false, false, false, false, false] (by kernel_rfl) rfl rfl ⟨(blk_cell BK195.out 0).trans rfl, (blk_cell BK195.out 1).trans rfl, (blk_cell BK195.out 2).trans rfl⟩ (fun hHeld => ?_); refine with_tabW spec_l09Read.tab1 spec_l09Read.bits1 (fun HT_ HW_ => ?_)
    generalize w56.drew = w57 at BK195 HB hHeld ⊢
    refine pure_ (i := 0) (N := some 11) (v := ?_) (a' := ?_) (flg_ 8 1) rfl rfl (any_of HT_.out (by kernel_rfl)) (fun _ _ _ h => h) (Or.inl ⟨by rfl, ?_⟩) ?_ ?_
    rotate_left; (· (intro w'; go_simp; with_reducible rfl)); rotate_left; (· (simp only [Act.put, sz_, s0_, s1_, i64_w, i32_w]; rfl))
    refine pure_ (i := 2) (N := some 13) (v := ?_) (a' := ?_) (flg_ 8 5) rfl rfl (any_of HT_.out (by kernel_rfl)) (fun _ _ _ h => h) (Or.inl ⟨by rfl, ?_⟩) ?_ ?_
    rotate_left; (· (intro w'; go_simp; with_reducible rfl)); rotate_left; (· (simp only [Act.put, sz_, s0_, s1_, i64_w, i32_w]; rfl))
    refine take_ (i := 3) (N := some 14) (v := ?_) (a' := ?_) (flg_ 8 13) rfl rfl (take_ofW HT_.out HW_.out (by kernel_rfl)) (fun _ _ _ h => h) (Or.inl ⟨by rfl, ?_⟩) hHeld ?_ ?_
    rotate_left; (· (rintro w' ⟨s0, s1, s2⟩; go_simp; with_reducible rfl)); rotate_left; (· (simp only [Act.put, sz_, s0_, s1_, i64_w, i32_w]; rfl))
    refine pure_ (i := 4) (N := some 15) (v := ?_) (a' := ?_) (flg_ 8 29) rfl rfl (any_of HT_.out (by kernel_rfl)) (fun _ _ _ h => h) (Or.inl ⟨by rfl, ?_⟩) ?_ ?_
    rotate_left; (· (intro w'; go_simp; with_reducible rfl)); rotate_left; (· (simp only [Act.put, sz_, s0_, s1_, i64_w, i32_w]; rfl))
    refine join_ (σ := Value × Value) 1 #[true, true, true, true, true, true, true, false] (fun s_ => [(12, s_.1), (16, s_.2), (6, s_.1)]) (fun s_ w' => (w'.cell? ⟨gb195, 0, none⟩ = some (.int .i64 a0_0) ∧ w'.cell? ⟨gb195, 1, none⟩ = some (.int .i64 a0_1) ∧ w'.cell? ⟨gb195, 2, none⟩ = some (.slice A0_2 l0_2.length c0_2)) ∧ (Kd.R Kd.string 9 w' w.heap.size (fun _ => True) s_.1 t196) ∧ (Kd.R (Kd.int .i64) 2 w' w.heap.size (fun _ => True) s_.2 y199) ∧ (w'.heap[gb195]? = some (.cells #[.int .i64 a0_0, .int .i64 a0_1, .slice A0_2 l0_2.length c0_2] 28 (0, 0))) ∧ (Below w.heap.size w w')) ?_ ?_
    rotate_left
    ·intro hCont
     refine two_ (i := 1) (j := 5) (Ni := some 12) (Nj := some 16) (flg_ 8 31) (flg_ 8 61) rfl rfl rfl rfl (two_of HT_.out (by kernel_rfl)) (by decide) (by decide) (fun K hK => ?_) (fun K hK => ?_)
     ·skip
      refine goes_ Tryd.func21 (by kernel_rfl) rfl #[.string a1, .int .u8 47] (by rfl) rfl rfl (by (try simp only [List.map_toArray, List.map_cons, List.map_nil]); first | done | rfl | (simp only [List.length_drop, List.length_take]; rfl)) ?_
      with_reducible refine (spec_l01Split.calls k a1 47 t196 _ A3.out).mono ?_
      rintro e w58 ⟨v197, rfl, ho0, hb⟩
      refine ⟨_, rfl, ?_⟩
      have n0_ := Aside0.mk (Kd.R_lower ho0 (below_size (by repeat (first | (with_reducible first | exact HB.out | apply below_alloc | apply pw_below_drewN | apply below_drew1 | refine below_set ?_ GE195.out) | exact HB.out))))
      have n1_ := Aside0.mk (blk_below (g := gb195) (o := .cells #[.int .i64 a0_0, .int .i64 a0_1, .slice A0_2 l0_2.length c0_2] 28 (0, 0)) (by (with_reducible repeat (first | refine blk_drewN ?_ _ | refine blk_drew ?_ | refine blk_alloc ?_ _)); exact BK195.out) hb)
      have n2_ := Aside0.mk (below_step (by repeat (first | (with_reducible first | exact HB.out | apply below_alloc | apply pw_below_drewN | apply below_drew1 | refine below_set ?_ GE195.out) | exact HB.out)) hb)
      clear BK195
      clear HB
      have HO198 := n0_
      have BK195 := n1_
      have HB := n2_
      clear n0_ n1_ n2_
      (try clear hb)
      (try clear hb2)
      (try clear hk)
      (try clear hi)
      (try clear ho0)
      refine hK.out _ _ ⟨(blk_cell BK195.out 0).trans rfl, (blk_cell BK195.out 1).trans rfl, (blk_cell BK195.out 2).trans rfl⟩ (fun hHeld => ?_)
      clear hK K
      refine norm_ (a' := ?_) ?_ ?_
      rotate_left
      ·show Act.put _ (some 12) _ = _
       simp only [Act.put, sz_, s0_, s1_, i64_w, i32_w]
       rfl
      refine pure_ (i := 6) (N := some 6) (v := ?_) (a' := ?_) (flg_ 8 95) rfl rfl (any_of HT_.out (by kernel_rfl)) (fun _ _ _ h => h) (Or.inl ⟨by rfl, ?_⟩) ?_ ?_
      rotate_left; (· (intro w'; go_simp; with_reducible rfl)); rotate_left; (· (simp only [Act.put, sz_, s0_, s1_, i64_w, i32_w]; rfl))
      refine one_ (i := 5) (N := some 16) (flg_ 8 127) rfl rfl (one_of HT_.out (by kernel_rfl)) (by decide) (fun K hK => ?_)
      refine Kd.R_make_step (Kd.int .i64) _ 2 (by rfl) (N := 16) rfl 22 _ _ rfl (l0_2.length : Int) rfl rfl Tryd.underlying22 (.int .i64 0) 8 info2 rfl (by decide) (by omega) 0 (ok := fun _ => True) (okp := fun _ => True) rfl (fun _ hk => hk) trivial (oda) (Nat.le_trans (Nat.mul_le_mul_right _ (oda : (l0_2.length : Int).toNat ≤ 35184372088832)) (by omega)) (Below.refl _ _) (Nat.le_refl _) ?_
      intro v200 w59 ho60 hb hg_ hnew_
      clear hg_ hnew_
      (first | rw [← Ny199.out] at ho60 | (simp only [Int.reduceToNat] at ho60; rw [← Ny199.out] at ho60))
      have n0_ := Aside0.mk (Kd.R_below (by (with_reducible repeat (first | apply Kd.R_alloc | apply Kd.R_drewN | apply Kd.R_drew)); exact HO198.out) hb)
      have n1_ := Aside0.mk (Kd.R_lower ho60 (below_size (by repeat (first | (with_reducible first | exact HB.out | apply below_alloc | apply pw_below_drewN | apply below_drew1 | refine below_set ?_ GE195.out) | exact HB.out))))
      have n2_ := Aside0.mk (blk_below (g := gb195) (o := .cells #[.int .i64 a0_0, .int .i64 a0_1, .slice A0_2 l0_2.length c0_2] 28 (0, 0)) (by (with_reducible repeat (first | refine blk_drewN ?_ _ | refine blk_drew ?_ | refine blk_alloc ?_ _)); exact BK195.out) hb)
      have n3_ := Aside0.mk (below_step (by repeat (first | (with_reducible first | exact HB.out | apply below_alloc | apply pw_below_drewN | apply below_drew1 | refine below_set ?_ GE195.out) | exact HB.out)) hb)
      clear HO198
      clear BK195
      clear HB
      have HO198 := n0_
      have HO201 := n1_
      have BK195 := n2_
      have HB := n3_
      clear n0_ n1_ n2_ n3_
      clear hb ho60
      refine hK.out _ _ ⟨(blk_cell BK195.out 0).trans rfl, (blk_cell BK195.out 1).trans rfl, (blk_cell BK195.out 2).trans rfl⟩ (fun hHeld => ?_)
      clear hK K
      refine norm_ (a' := ?_) ?_ ?_
      rotate_left
      ·show Act.put _ (some 16) _ = _
       simp only [Act.put, sz_, s0_, s1_, i64_w, i32_w]
       rfl
      exact norm_ (by simp only [putAll, Act.put, List.setIfInBounds_toArray, List.set_cons_zero, List.set_cons_succ]) (hCont (v197, v200) _ ⟨hHeld, (by (with_reducible repeat (first | apply Kd.R_alloc | apply Kd.R_drewN | apply Kd.R_drew)); exact HO198.out), (by (with_reducible repeat (first | apply Kd.R_alloc | apply Kd.R_drewN | apply Kd.R_drew)); exact HO201.out), (by (with_reducible repeat (first | refine blk_drewN ?_ _ | refine blk_drew ?_ | refine blk_alloc ?_ _)); exact BK195.out), (by repeat (first | (with_reducible first | exact HB.out | apply below_alloc | apply pw_below_drewN | apply below_drew1 | refine below_set ?_ GE195.out) | exact HB.out))⟩)
     ·skip
      refine Kd.R_make_step (Kd.int .i64) _ 2 (by rfl) (N := 16) rfl 22 _ _ rfl (l0_2.length : Int) rfl rfl Tryd.underlying22 (.int .i64 0) 8 info2 rfl (by decide) (by omega) 0 (ok := fun _ => True) (okp := fun _ => True) rfl (fun _ hk => hk) trivial (oda) (Nat.le_trans (Nat.mul_le_mul_right _ (oda : (l0_2.length : Int).toNat ≤ 35184372088832)) (by omega)) (Below.refl _ _) (Nat.le_refl _) ?_
      intro v200 w58 ho59 hb hg_ hnew_
      clear hg_ hnew_
      (first | rw [← Ny199.out] at ho59 | (simp only [Int.reduceToNat] at ho59; rw [← Ny199.out] at ho59))
      have n0_ := Aside0.mk (Kd.R_lower ho59 (below_size (by repeat (first | (with_reducible first | exact HB.out | apply below_alloc | apply pw_below_drewN | apply below_drew1 | refine below_set ?_ GE195.out) | exact HB.out))))
      have n1_ := Aside0.mk (blk_below (g := gb195) (o := .cells #[.int .i64 a0_0, .int .i64 a0_1, .slice A0_2 l0_2.length c0_2] 28 (0, 0)) (by (with_reducible repeat (first | refine blk_drewN ?_ _ | refine blk_drew ?_ | refine blk_alloc ?_ _)); exact BK195.out) hb)
      have n2_ := Aside0.mk (below_step (by repeat (first | (with_reducible first | exact HB.out | apply below_alloc | apply pw_below_drewN | apply below_drew1 | refine below_set ?_ GE195.out) | exact HB.out)) hb)
      clear BK195
      clear HB
      have HO201 := n0_
      have BK195 := n1_
      have HB := n2_
      clear n0_ n1_ n2_
      clear hb ho59
      refine hK.out _ _ ⟨(blk_cell BK195.out 0).trans rfl, (blk_cell BK195.out 1).trans rfl, (blk_cell BK195.out 2).trans rfl⟩ (fun hHeld => ?_)
      clear hK K
      refine norm_ (a' := ?_) ?_ ?_
      rotate_left
      ·show Act.put _ (some 16) _ = _
       simp only [Act.put, sz_, s0_, s1_, i64_w, i32_w]
       rfl
      refine one_ (i := 1) (N := some 12) (flg_ 8 63) rfl rfl (one_of HT_.out (by kernel_rfl)) (by decide) (fun K hK => ?_)
      refine goes_ Tryd.func21 (by kernel_rfl) rfl #[.string a1, .int .u8 47] (by rfl) rfl rfl (by (try simp only [List.map_toArray, List.map_cons, List.map_nil]); first | done | rfl | (simp only [List.length_drop, List.length_take]; rfl)) ?_
      with_reducible refine (spec_l01Split.calls k a1 47 t196 _ A3.out).mono ?_
      rintro e w60 ⟨v197, rfl, ho0, hb⟩
      refine ⟨_, rfl, ?_⟩
      have n0_ := Aside0.mk (Kd.R_below (by (with_reducible repeat (first | apply Kd.R_alloc | apply Kd.R_drewN | apply Kd.R_drew)); exact HO201.out) hb)
      have n1_ := Aside0.mk (Kd.R_lower ho0 (below_size (by repeat (first | (with_reducible first | exact HB.out | apply below_alloc | apply pw_below_drewN | apply below_drew1 | refine below_set ?_ GE195.out) | exact HB.out))))
      have n2_ := Aside0.mk (blk_below (g := gb195) (o := .cells #[.int .i64 a0_0, .int .i64 a0_1, .slice A0_2 l0_2.length c0_2] 28 (0, 0)) (by (with_reducible repeat (first | refine blk_drewN ?_ _ | refine blk_drew ?_ | refine blk_alloc ?_ _)); exact BK195.out) hb)
      have n3_ := Aside0.mk (below_step (by repeat (first | (with_reducible first | exact HB.out | apply below_alloc | apply pw_below_drewN | apply below_drew1 | refine below_set ?_ GE195.out) | exact HB.out)) hb)
      clear HO201
      clear BK195
      clear HB
      have HO201 := n0_
      have HO198 := n1_
      have BK195 := n2_
      have HB := n3_
      clear n0_ n1_ n2_ n3_
      (try clear hb)
      (try clear hb2)
      (try clear hk)
      (try clear hi)
      (try clear ho0)
      refine hK.out _ _ ⟨(blk_cell BK195.out 0).trans rfl, (blk_cell BK195.out 1).trans rfl, (blk_cell BK195.out 2).trans rfl⟩ (fun hHeld => ?_)
      clear hK K
      refine norm_ (a' := ?_) ?_ ?_
      rotate_left
      ·show Act.put _ (some 12) _ = _
       simp only [Act.put, sz_, s0_, s1_, i64_w, i32_w]
       rfl
      refine pure_ (i := 6) (N := some 6) (v := ?_) (a' := ?_) (flg_ 8 127) rfl rfl (any_of HT_.out (by kernel_rfl)) (fun _ _ _ h => h) (Or.inl ⟨by rfl, ?_⟩) ?_ ?_
      rotate_left; (· (intro w'; go_simp; with_reducible rfl)); rotate_left; (· (simp only [Act.put, sz_, s0_, s1_, i64_w, i32_w]; rfl))
      exact norm_ (by simp only [putAll, Act.put, List.setIfInBounds_toArray, List.set_cons_zero, List.set_cons_succ]) (hCont (v197, v200) _ ⟨hHeld, (by (with_reducible repeat (first | apply Kd.R_alloc | apply Kd.R_drewN | apply Kd.R_drew)); exact HO198.out), (by (with_reducible repeat (first | apply Kd.R_alloc | apply Kd.R_drewN | apply Kd.R_drew)); exact HO201.out), (by (with_reducible repeat (first | refine blk_drewN ?_ _ | refine blk_drew ?_ | refine blk_alloc ?_ _)); exact BK195.out), (by repeat (first | (with_reducible first | exact HB.out | apply below_alloc | apply pw_below_drewN | apply below_drew1 | refine below_set ?_ GE195.out) | exact HB.out))⟩)
    rintro ⟨v197, v200⟩ w61 ⟨hS_, h0_, h1_, h2_, h3_⟩
    have n0_ : Aside0 (Kd.R Kd.string 9 w61 w.heap.size (fun _ => True) v197 t196) := ⟨h0_⟩
    have n1_ : Aside0 (Kd.R (Kd.int .i64) 2 w61 w.heap.size (fun _ => True) v200 y199) := ⟨h1_⟩
    have n2_ : Aside0 (w61.heap[gb195]? = some (.cells #[.int .i64 a0_0, .int .i64 a0_1, .slice A0_2 l0_2.length c0_2] 28 (0, 0))) := ⟨h2_⟩
    have n3_ : Aside0 (Below w.heap.size w w61) := ⟨h3_⟩
    clear BK195
    clear HB
    clear h0_ h1_ h2_ h3_
    have HO198 := n0_
    have HO201 := n1_
    have BK195 := n2_
    have HB := n3_
    clear n0_ n1_ n2_ n3_
    have hHeld : w61.cell? ⟨gb195, 0, none⟩ = some (.int .i64 a0_0) ∧ w61.cell? ⟨gb195, 1, none⟩ = some (.int .i64 a0_1) ∧ w61.cell? ⟨gb195, 2, none⟩ = some (.slice A0_2 l0_2.length c0_2) := hS_
    refine norm_ (a' := ?_) ?_ ?_
    rotate_left
    ·simp only [putAll, Act.put, List.setIfInBounds_toArray, List.set_cons_zero, List.set_cons_succ]
     rfl
    refine pure_ (i := 7) (N := some 7) (v := ?_) (a' := ?_) (flg_ 8 255) rfl rfl (any_of HT_.out (by kernel_rfl)) (fun _ _ _ h => h) (Or.inl ⟨by rfl, ?_⟩) ?_ ?_
    rotate_left; (· (intro w'; go_simp; with_reducible rfl)); rotate_left; (· (simp only [Act.put, sz_, s0_, s1_, i64_w, i32_w]; rfl))
    refine done_ (done_of HT_.out (by kernel_rfl)) ?_
    obtain ⟨Ao62, co62, eo62⟩ := Kd.R_slice HO198.out
    subst eo62
    have hcz63_0 : w61.cell? ⟨gb195, 0, none⟩ = some (.int .i64 a0_0) := (blk_cell BK195.out 0).trans rfl
    have hcz63_1 : w61.cell? ⟨gb195, 1, none⟩ = some (.int .i64 a0_1) := (blk_cell BK195.out 1).trans rfl
    have hcz63_2 : w61.cell? ⟨gb195, 2, none⟩ = some (.slice A0_2 l0_2.length c0_2) := (blk_cell BK195.out 2).trans rfl
    have hfz63_0 := blk_frozen BK195.out 0
    have hfz63_1 := blk_frozen BK195.out 1
    have hfz63_2 := blk_frozen BK195.out 2
    try go_wp2
    go_ret2
    exact ⟨_, by first | rfl | (simp [errW_none, errW_some] <;> rfl) | (simp [*, errW_none, errW_some] <;> rfl), by first | exact Kd.R_nil _ _ _ _ _ | exact Kd.N_nil _ _ _ _ _ | exact Kd.V_nil _ _ _ _ _ | exact Kd.Q_nil _ _ _ _ _ | exact Kd.S_nil _ _ _ _ _, by repeat (first | (with_reducible first | exact HB.out | apply below_alloc | apply pw_below_drewN | apply below_drew1 | refine below_set ?_ GE195.out) | exact HB.out)⟩
  ·rw [if_neg c5] at H
   exact absurd H (by simp)
 ·rw [if_neg c4] at H
  exact absurd H (by simp)
/-! ### spec_ParseFleet: function 5 -/
def spec_ParseFleet.f (k : Nat) (a0_0 : Int) (a0_1 : Int) (l0_2 : List Int) (a1 : ByteArray) : Option (List Int × Int) := (spec_l09Is.f k a0_0 a0_1 l0_2).bind fun t209 => (if t209 = true then ((spec_l09Read.f k a0_0 a0_1 l0_2 a1).bind fun bt210 => (if bt210.2 = true then (some (bt210.1, 0)) else (some (([] : List Int), 6)))) else (some (([] : List Int), 1)))
set_option maxHeartbeats 8000000 in
set_option maxRecDepth 100000 in
theorem spec_ParseFleet.calls (k : Nat) (a0_0 : Int) (a0_1 : Int) (A0_2 : Option Addr) (c0_2 : Nat) (l0_2 : List Int) (a1 : ByteArray) (r1 : List Int) (r2 : Int) (w : World) (hr0_2 : Kd.C (Kd.int .i64) w A0_2 l0_2.length l0_2) (hc0_2 : l0_2.length ≤ c0_2) (h : spec_ParseFleet.f k a0_0 a0_1 l0_2 a1 = some (r1, r2)) :
  Calls Tryd.prog 5 #[.agg #[.int .i64 a0_0, .int .i64 a0_1, .slice A0_2 l0_2.length c0_2], .string a1] w fun e w' => ∃ v0_ : Value, e = .returned (.tuple #[v0_, .int .i64 r2]) ∧ Kd.R (Kd.int .i64) 2 w' w.heap.size (fun _ => True) v0_ r1 ∧ Below w.heap.size w w' := by
 have hu28 := Tryd.underlying28
 have HR0_2 := Aside0.mk hr0_2
 have HC0_2 := Aside0.mk hc0_2
 clear hr0_2 hc0_2
 have HB := Aside0.mk (Below.refl w.heap.size w)
 have H : ((spec_l09Is.f k a0_0 a0_1 l0_2).bind fun t209 => (if t209 = true then ((spec_l09Read.f k a0_0 a0_1 l0_2 a1).bind fun bt210 => (if bt210.2 = true then (some (bt210.1, 0)) else (some (([] : List Int), 6)))) else (some (([] : List Int), 1)))) = some (r1, r2) := h
 clear h
 replace H := Option.bind_eq_some_iff.mp H
 obtain ⟨t209, A30, H⟩ := H
 replace H : (if t209 = true then ((spec_l09Read.f k a0_0 a0_1 l0_2 a1).bind fun bt210 => (if bt210.2 = true then (some (bt210.1, 0)) else (some (([] : List Int), 6)))) else (some (([] : List Int), 1))) = some (r1, r2) := H
 have A3 := Aside0.mk A30
 clear A30
 by_cases c4 : t209 = true
 ·subst c4
  have H1 : ((spec_l09Read.f k a0_0 a0_1 l0_2 a1).bind fun bt210 => (if bt210.2 = true then (some (bt210.1, 0)) else (some (([] : List Int), 6)))) = some (r1, r2) := by rw [if_pos rfl] at H; exact H
  clear H
  have H := H1
  clear H1
  replace H := Option.bind_eq_some_iff.mp H
  obtain ⟨⟨t210, t213⟩, A50, H⟩ := H
  replace H : (if t213 = true then (some (t210, 0)) else (some (([] : List Int), 6))) = some (r1, r2) := H
  have A5 := Aside0.mk A50
  clear A50
  by_cases c6 : t213 = true
  ·subst c6
   have H1 : (some (t210, 0)) = some (r1, r2) := by rw [if_pos rfl] at H; exact H
   clear H
   have H := H1
   clear H1
   simp only [Option.some.injEq, Prod.mk.injEq] at H
   obtain ⟨rfl, rfl⟩ := H
   go_enter Tryd.func5, Tryd.ntmps5
   go_wp2_with (first | ((with_reducible refine gate_dst (N := 2) rfl ?_); refine box_event ?hg (N := 2) ?hd (cs := #[.int .i64 a0_0, .int .i64 a0_1, .slice A0_2 l0_2.length c0_2]) (t := 28) ?hr ?_; (case hd => rfl); (case hg => rfl); (case hr => first | (go_simp; done) | (go_simp; rfl)); intro gb208 hg w7 hbox hb; have n0_ := Aside0.mk (below_step hb_ hb); have n1_ := Aside0.mk (hbox); have n2_ := Aside0.mk ((by rw [hg]; exact (below_size hb_) : w.heap.size ≤ gb208)); have n3_ := Aside0.mk ((by rw [hg]; exact (below_size hb_) : w.heap.size ≤ gb208)); clear HB; have HB := n0_; have BK208 := n1_; have GW208 := n2_; have GE208 := n3_; clear n0_ n1_ n2_ n3_; clear hb hbox hg; have hcz8_0 : w7.cell? ⟨gb208, 0, none⟩ = some (.int .i64 a0_0) := (blk_cell BK208.out 0).trans rfl; have hcz8_1 : w7.cell? ⟨gb208, 1, none⟩ = some (.int .i64 a0_1) := (blk_cell BK208.out 1).trans rfl; have hcz8_2 : w7.cell? ⟨gb208, 2, none⟩ = some (.slice A0_2 l0_2.length c0_2) := (blk_cell BK208.out 2).trans rfl; have hfz8_0 := blk_frozen BK208.out 0; have hfz8_1 := blk_frozen BK208.out 1; have hfz8_2 := blk_frozen BK208.out 2) | ((with_reducible refine gate_callee (f := 14) rfl ?_); refine goesA_ (some 9) rfl rfl Tryd.func14 (by kernel_rfl) rfl #[.agg #[.int .i64 a0_0, .int .i64 a0_1, .slice A0_2 l0_2.length c0_2]] rfl ?_; (with_reducible refine (spec_l09Is.calls k a0_0 a0_1 _ _ l0_2 true _ ?side1 ?side2 A3.out).mono ?_); (case side1 => repeat (first | exact (Kd.C_below HR0_2.out HB.out) | (with_reducible refine Kd.C_alloc ?_ _) | (with_reducible refine Kd.C_drewN ?_ _) | (with_reducible refine Kd.C_drew ?_))); (case side2 => exact HC0_2.out); rintro e w9 ⟨rfl, hb⟩; refine ⟨_, rfl, ?_⟩; have n0_ := Aside0.mk (blk_below (g := gb208) (o := .cells #[.int .i64 a0_0, .int .i64 a0_1, .slice A0_2 l0_2.length c0_2] 28 (0, 0)) (by (with_reducible repeat (first | refine blk_drewN ?_ _ | refine blk_drew ?_ | refine blk_alloc ?_ _)); exact BK208.out) hb); have n1_ := Aside0.mk (below_step (by repeat (first | (with_reducible first | exact HB.out | apply below_alloc | apply pw_below_drewN | apply below_drew1 | refine below_set ?_ GE208.out) | exact HB.out)) hb); clear BK208; clear HB; have BK208 := n0_; have HB := n1_; clear n0_ n1_; (try clear hb); (try clear hb2); (try clear hk); (try clear hi); have hcz10_0 : w9.cell? ⟨gb208, 0, none⟩ = some (.int .i64 a0_0) := (blk_cell BK208.out 0).trans rfl; have hcz10_1 : w9.cell? ⟨gb208, 1, none⟩ = some (.int .i64 a0_1) := (blk_cell BK208.out 1).trans rfl; have hcz10_2 : w9.cell? ⟨gb208, 2, none⟩ = some (.slice A0_2 l0_2.length c0_2) := (blk_cell BK208.out 2).trans rfl; have hfz10_0 := blk_frozen BK208.out 0; have hfz10_1 := blk_frozen BK208.out 1; have hfz10_2 := blk_frozen BK208.out 2) | ((with_reducible refine gate_callee (f := 15) rfl ?_); refine goesA_ (some 14) rfl rfl Tryd.func15 (by kernel_rfl) rfl #[.agg #[.int .i64 a0_0, .int .i64 a0_1, .slice A0_2 l0_2.length c0_2], .string a1] rfl ?_; (with_reducible refine (spec_l09Read.calls k a0_0 a0_1 _ _ l0_2 a1 t210 true _ ?side1 ?side2 A5.out).mono ?_); (case side1 => repeat (first | exact (Kd.C_below HR0_2.out HB.out) | (with_reducible refine Kd.C_alloc ?_ _) | (with_reducible refine Kd.C_drewN ?_ _) | (with_reducible refine Kd.C_drew ?_))); (case side2 => exact HC0_2.out); rintro e w11 ⟨v211, rfl, ho0, hb⟩; refine ⟨_, rfl, ?_⟩; have n0_ := Aside0.mk (Kd.R_lower ho0 (below_size (by repeat (first | (with_reducible first | exact HB.out | apply below_alloc | apply pw_below_drewN | apply below_drew1 | refine below_set ?_ GE208.out) | exact HB.out)))); have n1_ := Aside0.mk (blk_below (g := gb208) (o := .cells #[.int .i64 a0_0, .int .i64 a0_1, .slice A0_2 l0_2.length c0_2] 28 (0, 0)) (by (with_reducible repeat (first | refine blk_drewN ?_ _ | refine blk_drew ?_ | refine blk_alloc ?_ _)); exact BK208.out) hb); have n2_ := Aside0.mk (below_step (by repeat (first | (with_reducible first | exact HB.out | apply below_alloc | apply pw_below_drewN | apply below_drew1 | refine below_set ?_ GE208.out) | exact HB.out)) hb); clear BK208; clear HB; have HO212 := n0_; have BK208 := n1_; have HB := n2_; clear n0_ n1_ n2_; (try clear hb); (try clear hb2); (try clear hk); (try clear hi); (try clear ho0)))
   go_ret2
   exact ⟨_, by first | rfl | (simp [errW_none, errW_some] <;> rfl) | (simp [*, errW_none, errW_some] <;> rfl), by (with_reducible repeat (first | apply Kd.R_alloc | apply Kd.R_drewN | apply Kd.R_drew)); exact HO212.out, by repeat (first | (with_reducible first | exact HB.out | apply below_alloc | apply pw_below_drewN | apply below_drew1 | refine below_set ?_ GE208.out) | exact HB.out)⟩
  ·replace c6 := Bool.eq_false_iff.mpr c6
   subst c6
   have H1 : (some (([] : List Int), 6)) = some (r1, r2) := by rw [if_neg (show ¬ (false = true) by decide)] at H; exact H
   clear H
   have H := H1
   clear H1
   simp only [Option.some.injEq, Prod.mk.injEq] at H
   obtain ⟨rfl, rfl⟩ := H
   go_enter Tryd.func5, Tryd.ntmps5
   go_wp2_with (first | ((with_reducible refine gate_dst (N := 2) rfl ?_); refine box_event ?hg (N := 2) ?hd (cs := #[.int .i64 a0_0, .int .i64 a0_1, .slice A0_2 l0_2.length c0_2]) (t := 28) ?hr ?_; (case hd => rfl); (case hg => rfl); (case hr => first | (go_simp; done) | (go_simp; rfl)); intro gb208 hg w12 hbox hb; have n0_ := Aside0.mk (below_step hb_ hb); have n1_ := Aside0.mk (hbox); have n2_ := Aside0.mk ((by rw [hg]; exact (below_size hb_) : w.heap.size ≤ gb208)); have n3_ := Aside0.mk ((by rw [hg]; exact (below_size hb_) : w.heap.size ≤ gb208)); clear HB; have HB := n0_; have BK208 := n1_; have GW208 := n2_; have GE208 := n3_; clear n0_ n1_ n2_ n3_; clear hb hbox hg; have hcz13_0 : w12.cell? ⟨gb208, 0, none⟩ = some (.int .i64 a0_0) := (blk_cell BK208.out 0).trans rfl; have hcz13_1 : w12.cell? ⟨gb208, 1, none⟩ = some (.int .i64 a0_1) := (blk_cell BK208.out 1).trans rfl; have hcz13_2 : w12.cell? ⟨gb208, 2, none⟩ = some (.slice A0_2 l0_2.length c0_2) := (blk_cell BK208.out 2).trans rfl; have hfz13_0 := blk_frozen BK208.out 0; have hfz13_1 := blk_frozen BK208.out 1; have hfz13_2 := blk_frozen BK208.out 2) | ((with_reducible refine gate_callee (f := 14) rfl ?_); refine goesA_ (some 9) rfl rfl Tryd.func14 (by kernel_rfl) rfl #[.agg #[.int .i64 a0_0, .int .i64 a0_1, .slice A0_2 l0_2.length c0_2]] rfl ?_; (with_reducible refine (spec_l09Is.calls k a0_0 a0_1 _ _ l0_2 true _ ?side1 ?side2 A3.out).mono ?_); (case side1 => repeat (first | exact (Kd.C_below HR0_2.out HB.out) | (with_reducible refine Kd.C_alloc ?_ _) | (with_reducible refine Kd.C_drewN ?_ _) | (with_reducible refine Kd.C_drew ?_))); (case side2 => exact HC0_2.out); rintro e w14 ⟨rfl, hb⟩; refine ⟨_, rfl, ?_⟩; have n0_ := Aside0.mk (blk_below (g := gb208) (o := .cells #[.int .i64 a0_0, .int .i64 a0_1, .slice A0_2 l0_2.length c0_2] 28 (0, 0)) (by (with_reducible repeat (first | refine blk_drewN ?_ _ | refine blk_drew ?_ | refine blk_alloc ?_ _)); exact BK208.out) hb); have n1_ := Aside0.mk (below_step (by repeat (first | (with_reducible first | exact HB.out | apply below_alloc | apply pw_below_drewN | apply below_drew1 | refine below_set ?_ GE208.out) | exact HB.out)) hb); clear BK208; clear HB; have BK208 := n0_; have HB := n1_; clear n0_ n1_; (try clear hb); (try clear hb2); (try clear hk); (try clear hi); have hcz15_0 : w14.cell? ⟨gb208, 0, none⟩ = some (.int .i64 a0_0) := (blk_cell BK208.out 0).trans rfl; have hcz15_1 : w14.cell? ⟨gb208, 1, none⟩ = some (.int .i64 a0_1) := (blk_cell BK208.out 1).trans rfl; have hcz15_2 : w14.cell? ⟨gb208, 2, none⟩ = some (.slice A0_2 l0_2.length c0_2) := (blk_cell BK208.out 2).trans rfl; have hfz15_0 := blk_frozen BK208.out 0; have hfz15_1 := blk_frozen BK208.out 1; have hfz15_2 := blk_frozen BK208.out 2) | ((with_reducible refine gate_callee (f := 15) rfl ?_); refine goesA_ (some 14) rfl rfl Tryd.func15 (by kernel_rfl) rfl #[.agg #[.int .i64 a0_0, .int .i64 a0_1, .slice A0_2 l0_2.length c0_2], .string a1] rfl ?_; (with_reducible refine (spec_l09Read.calls k a0_0 a0_1 _ _ l0_2 a1 t210 false _ ?side1 ?side2 A5.out).mono ?_); (case side1 => repeat (first | exact (Kd.C_below HR0_2.out HB.out) | (with_reducible refine Kd.C_alloc ?_ _) | (with_reducible refine Kd.C_drewN ?_ _) | (with_reducible refine Kd.C_drew ?_))); (case side2 => exact HC0_2.out); rintro e w16 ⟨v211, rfl, ho0, hb⟩; refine ⟨_, rfl, ?_⟩; have n0_ := Aside0.mk (Kd.R_lower ho0 (below_size (by repeat (first | (with_reducible first | exact HB.out | apply below_alloc | apply pw_below_drewN | apply below_drew1 | refine below_set ?_ GE208.out) | exact HB.out)))); have n1_ := Aside0.mk (blk_below (g := gb208) (o := .cells #[.int .i64 a0_0, .int .i64 a0_1, .slice A0_2 l0_2.length c0_2] 28 (0, 0)) (by (with_reducible repeat (first | refine blk_drewN ?_ _ | refine blk_drew ?_ | refine blk_alloc ?_ _)); exact BK208.out) hb); have n2_ := Aside0.mk (below_step (by repeat (first | (with_reducible first | exact HB.out | apply below_alloc | apply pw_below_drewN | apply below_drew1 | refine below_set ?_ GE208.out) | exact HB.out)) hb); clear BK208; clear HB; have HO212 := n0_; have BK208 := n1_; have HB := n2_; clear n0_ n1_ n2_; (try clear hb); (try clear hb2); (try clear hk); (try clear hi); (try clear ho0)))
   go_ret2
   exact ⟨_, by first | rfl | (simp [errW_none, errW_some] <;> rfl) | (simp [*, errW_none, errW_some] <;> rfl), by first | exact Kd.R_nil _ _ _ _ _ | exact Kd.N_nil _ _ _ _ _ | exact Kd.V_nil _ _ _ _ _ | exact Kd.Q_nil _ _ _ _ _ | exact Kd.S_nil _ _ _ _ _, by repeat (first | (with_reducible first | exact HB.out | apply below_alloc | apply pw_below_drewN | apply below_drew1 | refine below_set ?_ GE208.out) | exact HB.out)⟩
 ·replace c4 := Bool.eq_false_iff.mpr c4
  subst c4
  have H1 : (some (([] : List Int), 1)) = some (r1, r2) := by rw [if_neg (show ¬ (false = true) by decide)] at H; exact H
  clear H
  have H := H1
  clear H1
  simp only [Option.some.injEq, Prod.mk.injEq] at H
  obtain ⟨rfl, rfl⟩ := H
  go_enter Tryd.func5, Tryd.ntmps5
  go_wp2_with (first | ((with_reducible refine gate_dst (N := 2) rfl ?_); refine box_event ?hg (N := 2) ?hd (cs := #[.int .i64 a0_0, .int .i64 a0_1, .slice A0_2 l0_2.length c0_2]) (t := 28) ?hr ?_; (case hd => rfl); (case hg => rfl); (case hr => first | (go_simp; done) | (go_simp; rfl)); intro gb208 hg w17 hbox hb; have n0_ := Aside0.mk (below_step hb_ hb); have n1_ := Aside0.mk (hbox); have n2_ := Aside0.mk ((by rw [hg]; exact (below_size hb_) : w.heap.size ≤ gb208)); have n3_ := Aside0.mk ((by rw [hg]; exact (below_size hb_) : w.heap.size ≤ gb208)); clear HB; have HB := n0_; have BK208 := n1_; have GW208 := n2_; have GE208 := n3_; clear n0_ n1_ n2_ n3_; clear hb hbox hg; have hcz18_0 : w17.cell? ⟨gb208, 0, none⟩ = some (.int .i64 a0_0) := (blk_cell BK208.out 0).trans rfl; have hcz18_1 : w17.cell? ⟨gb208, 1, none⟩ = some (.int .i64 a0_1) := (blk_cell BK208.out 1).trans rfl; have hcz18_2 : w17.cell? ⟨gb208, 2, none⟩ = some (.slice A0_2 l0_2.length c0_2) := (blk_cell BK208.out 2).trans rfl; have hfz18_0 := blk_frozen BK208.out 0; have hfz18_1 := blk_frozen BK208.out 1; have hfz18_2 := blk_frozen BK208.out 2) | ((with_reducible refine gate_callee (f := 14) rfl ?_); refine goesA_ (some 9) rfl rfl Tryd.func14 (by kernel_rfl) rfl #[.agg #[.int .i64 a0_0, .int .i64 a0_1, .slice A0_2 l0_2.length c0_2]] rfl ?_; (with_reducible refine (spec_l09Is.calls k a0_0 a0_1 _ _ l0_2 false _ ?side1 ?side2 A3.out).mono ?_); (case side1 => repeat (first | exact (Kd.C_below HR0_2.out HB.out) | (with_reducible refine Kd.C_alloc ?_ _) | (with_reducible refine Kd.C_drewN ?_ _) | (with_reducible refine Kd.C_drew ?_))); (case side2 => exact HC0_2.out); rintro e w19 ⟨rfl, hb⟩; refine ⟨_, rfl, ?_⟩; have n0_ := Aside0.mk (blk_below (g := gb208) (o := .cells #[.int .i64 a0_0, .int .i64 a0_1, .slice A0_2 l0_2.length c0_2] 28 (0, 0)) (by (with_reducible repeat (first | refine blk_drewN ?_ _ | refine blk_drew ?_ | refine blk_alloc ?_ _)); exact BK208.out) hb); have n1_ := Aside0.mk (below_step (by repeat (first | (with_reducible first | exact HB.out | apply below_alloc | apply pw_below_drewN | apply below_drew1 | refine below_set ?_ GE208.out) | exact HB.out)) hb); clear BK208; clear HB; have BK208 := n0_; have HB := n1_; clear n0_ n1_; (try clear hb); (try clear hb2); (try clear hk); (try clear hi)))
  go_ret2
  exact ⟨_, by first | rfl | (simp [errW_none, errW_some] <;> rfl) | (simp [*, errW_none, errW_some] <;> rfl), by first | exact Kd.R_nil _ _ _ _ _ | exact Kd.N_nil _ _ _ _ _ | exact Kd.V_nil _ _ _ _ _ | exact Kd.Q_nil _ _ _ _ _ | exact Kd.S_nil _ _ _ _ _, by repeat (first | (with_reducible first | exact HB.out | apply below_alloc | apply pw_below_drewN | apply below_drew1 | refine below_set ?_ GE208.out) | exact HB.out)⟩
-- A range over a string whose round writes elsewhere: the iterator is a block of its own. (for 18)
def iterSet (w : World) (g : Nat) (s : ByteArray) (pos : Nat) : World := { w with heap := w.heap.setIfInBounds g (.stringIter s pos) }
theorem iter_far (w : World) {g k : Nat} (s : ByteArray) (pos : Nat) (h : k ≠ g) : (iterSet w g s pos).heap[k]? = w.heap[k]? := by
  show (w.heap.setIfInBounds g _)[k]? = _
  rw [Array.getElem?_setIfInBounds, if_neg (fun e => h e.symm)]
theorem iter_get {w : World} {g : Nat} (s : ByteArray) (pos : Nat) (h : g < w.heap.size) : (iterSet w g s pos).heap[g]? = some (.stringIter s pos) := by
  show (w.heap.setIfInBounds g _)[g]? = _
  rw [Array.getElem?_setIfInBounds, if_pos rfl, if_pos h]
theorem below_iter {B : Nat} {w W : World} (h : Below B w W) {g : Nat} (hg : B ≤ g) (s : ByteArray) (pos : Nat) : Below B w (iterSet W g s pos) :=
  ⟨h.os, h.tape, h.output, by show _ ≤ (W.heap.setIfInBounds g _).size; rw [Array.size_setIfInBounds]; exact h.size, fun k hk => (iter_far W s pos (by omega)).trans (h.block k hk)⟩
theorem R_iter {α : Type} {d : Kd α} {e : Nat} {w : World} {base : Nat} {ok : Nat → Prop} {v : Value} {xs : List α} (h : d.R e w base ok v xs) {g : Nat} (hok : ∀ k, ok k → k ≠ g) (s : ByteArray) (pos : Nat) : d.R e (iterSet w g s pos) base ok v xs :=
  Kd.R_step h (fun k ho _ => iter_far w s pos (hok k ho))
theorem next_some {P : Program} {w : World} {g : Nat} {s : ByteArray} {pos : Nat} (h : w.heap[g]? = some (.stringIter s pos)) (hp : pos < s.size) (ty : TypeId) :
    (Instr.next (.pointer (some ⟨g, 0, none⟩)) true ty).run P w = .ok (.tuple #[.bool true, .int .i64 pos, .int .i32 (Utf8.decode s pos).1]) (iterSet w g s (pos + (Utf8.decode s pos).2)) := by
  simp only [Instr.next, getObj, setObj, Sem.run_bind, Sem.run, h, Result.andThen, hp, if_true]
  simp [goInt, iterSet]
theorem next_none {P : Program} {w : World} {g : Nat} {s : ByteArray} {pos : Nat} (h : w.heap[g]? = some (.stringIter s pos)) (hp : ¬ pos < s.size) (ty : TypeId) :
    (Instr.next (.pointer (some ⟨g, 0, none⟩)) true ty).run P w = .ok (.tuple #[.bool false]) w := by
  simp [Instr.next, getObj, Sem.run, h, hp]
-- slices.Contains of numbers: what the list says.
theorem index_l0 (x : List Int) (a : Int) (hx : x.length ≤ 9223372036854775807) : ∀ (d i : Nat), i + d = x.length → Ev (fun k => slices_Index_int64_int64.l0 k x a x.length i) (idxK (fun y => a == y) (x.drop i) i) := by
  intro d
  induction d with
  | zero =>
    intro i hi
    refine Ev.step (f := fun _ => some (-1)) (fun k => ?_) (by rw [List.drop_of_length_le (by omega)]; exact Ev.now _)
    simp only [slices_Index_int64_int64.l0]
    rw [if_neg (by omega)]
  | succ d ih =>
    intro i hi
    have hlt : i < x.length := by omega
    rw [idxK_drop _ x i hlt]
    by_cases h : a = x[i]
    · rw [if_pos (by simp [h])]
      refine Ev.step (f := fun _ => some (i : Int)) (fun k => ?_) (Ev.now _)
      simp only [slices_Index_int64_int64.l0]
      rw [if_pos (by omega), if_pos (by omega), if_pos (by omega), rd_get x i hlt, if_pos h]
    · rw [if_neg (by simp [h])]
      refine Ev.step (fun k => ?_) (ih (i + 1) (by omega))
      simp only [slices_Index_int64_int64.l0]
      rw [if_pos (by omega), if_pos (by omega), if_pos (by omega), rd_get x i hlt, if_neg h, wrap_next hlt (by omega)]
theorem contains_any (x : List Int) (a : Int) : (x.any fun y => a == y) = x.contains a := by
  induction x with
  | nil => rfl
  | cons b r ih => rw [List.any_cons, List.contains_cons, ih]
theorem contains_ev (x : List Int) (a : Int) (hx : x.length ≤ 9223372036854775807) : Ev (fun k => slices_Contains_int64_int64.f k x a) (x.contains a) := by
  unfold slices_Contains_int64_int64.f slices_Index_int64_int64.f
  have := index_l0 x a hx x.length 0 (by omega)
  refine Ev.bind this ?_
  rw [List.drop_zero, ← contains_any, ← idxK_any]
  exact Ev.congr (f := fun _ => some _) (fun k => by congr) (Ev.now _)
-- Placements: the reference's list is the ascending list of all placements.
theorem asc_raise : ∀ (l : List Int) (lo lo' : Int), Asc lo l → (∀ z ∈ l, lo' ≤ z) → Asc lo' l
  | [], _, _, _, _ => trivial
  | a :: _, _, _, h, hz => ⟨hz a (List.mem_cons_self ..), h.2⟩
theorem asc_insert : ∀ (l1 l2 : List Int) (lo x : Int), Asc lo (l1 ++ l2) → (∀ z ∈ l1, z < x) → (∀ z ∈ l2, x < z) → lo ≤ x → Asc lo (l1 ++ [x] ++ l2)
  | [], l2, lo, x, h, _, h2, hx => ⟨hx, asc_raise l2 lo (x + 1) h (fun z hz => by have := h2 z hz; omega)⟩
  | a :: r, l2, lo, x, h, h1, h2, hx => ⟨h.1, asc_insert r l2 (a + 1) x h.2 (fun z hz => h1 z (List.mem_cons_of_mem _ hz)) h2 (by have := h1 a (List.mem_cons_self ..); omega)⟩
theorem asc_lt : ∀ (l : List Int) (lo : Int), Asc lo l → ∀ (i j : Nat) (hi : i < l.length) (hj : j < l.length), i < j → l[i] < l[j]
  | a :: r, lo, h, i, j + 1, hi, hj, hij => by
    cases i with
    | zero =>
      have := asc_le r (a + 1) h.2 (r[j]'(by simpa using hj)) (List.getElem_mem _)
      simp only [List.getElem_cons_zero, List.getElem_cons_succ]
      omega
    | succ i =>
      simp only [List.getElem_cons_succ]
      exact asc_lt r (a + 1) h.2 i j (by simpa using hi) (by simpa using hj) (by omega)
theorem own_val (l : List Int) (h : l.length ≤ 1000000) : spec_l01Own.f l = some l := by
  unfold spec_l01Own.f
  simp only [Option.bind_some, List.nil_append]
  rw [if_pos (by simp; omega)]
/-- The reference's insertion: one number more, still ascending. -/
def PutOf (lo : Int) (l : List Int) (x : Int) (r : List Int) : Prop := Asc lo r ∧ r.length ≤ l.length + 1 ∧ ∀ z, z ∈ r ↔ z ∈ l ∨ z = x
theorem put_mid (lo : Int) (l : List Int) (x : Int) (n : Nat) (h : Asc lo l) (hx : lo ≤ x) (hn : n ≤ l.length) (h1 : ∀ i (hi : i < l.length), i < n → l[i] < x) (h2 : ∀ i (hi : i < l.length), n ≤ i → x < l[i]) : PutOf lo l x (l.take n ++ [x] ++ l.drop n) := by
  refine ⟨asc_insert _ _ _ _ (by rw [List.take_append_drop]; exact h) (fun z hz => ?_) (fun z hz => ?_) hx, by simp; omega, fun z => ?_⟩
  · obtain ⟨i, hi, rfl⟩ := List.mem_iff_getElem.1 hz
    rw [List.getElem_take]
    rw [List.length_take] at hi
    exact h1 i (by omega) (by omega)
  · obtain ⟨i, hi, rfl⟩ := List.mem_iff_getElem.1 hz
    rw [List.getElem_drop]
    rw [List.length_drop] at hi
    exact h2 (n + i) (by omega) (by omega)
  · have := List.take_append_drop n l
    constructor
    · intro hz
      rcases List.mem_append.1 hz with hz | hz
      · rcases List.mem_append.1 hz with hz | hz
        · exact .inl (List.mem_of_mem_take hz)
        · exact .inr (List.mem_singleton.1 hz)
      · exact .inl (List.mem_of_mem_drop hz)
    · rintro (hz | rfl)
      · rw [← this] at hz
        rcases List.mem_append.1 hz with hz | hz
        · exact List.mem_append_left _ (List.mem_append_left _ hz)
        · exact List.mem_append_right _ hz
      · exact List.mem_append_left _ (List.mem_append_right _ (List.mem_singleton.2 rfl))
theorem put_l0 (lo : Int) (l : List Int) (x : Int) (h : Asc lo l) (hx : lo ≤ x) (hl : l.length ≤ 100000) : ∀ n, n ≤ l.length → (∀ i (hi : i < l.length), n ≤ i → x < l[i]) →
    ∃ r, Ev (fun k => spec_l01Put.l0 k l x (n : Int)) r ∧ PutOf lo l x r := by
  intro n
  induction n with
  | zero =>
    intro _ h2
    refine ⟨_, ?_, put_mid lo l x 0 h hx (by omega) (fun i _ hi => by omega) h2⟩
    refine Ev.step (f := fun _ => some _) (fun k => ?_) (Ev.now _)
    simp only [spec_l01Put.l0]
    rw [if_neg (by omega), if_pos (by omega), if_pos (by omega), own_val _ (by rw [List.length_take]; omega)]
    simp only [Option.bind_some]
    rw [if_pos (by simp), if_pos (by simp; omega)]
    rfl
  | succ m ih =>
    intro hm h2
    have hml : m < l.length := by omega
    have hw : wrap64 (((m + 1 : Nat) : Int) - 1) = (m : Int) := by unfold wrap64; omega
    have hrd : rd l (m : Int) = l[m] := rd_get l m hml
    by_cases hgt : l[m] > x
    · obtain ⟨r, h3, h4⟩ := ih (by omega) (fun i hi hmi => by
        by_cases e : i = m
        · subst e; exact hgt
        · exact h2 i hi (by omega))
      refine ⟨r, Ev.step (fun k => ?_) h3, h4⟩
      simp only [spec_l01Put.l0]
      rw [if_pos (by omega), hw, if_pos (by omega), if_pos (by omega), hrd, if_pos hgt]
    · by_cases he : l[m] = x
      · refine ⟨l, ?_, h, by omega, fun z => ⟨.inl, ?_⟩⟩
        · refine Ev.step (f := fun _ => some l) (fun k => ?_) (Ev.now _)
          simp only [spec_l01Put.l0]
          rw [if_pos (by omega), hw, if_pos (by omega), if_pos (by omega), hrd, if_neg hgt, if_pos he]
        · rintro (hz | rfl)
          · exact hz
          · rw [← he]; exact List.getElem_mem _
      · refine ⟨_, ?_, put_mid lo l x (m + 1) h hx (by omega) (fun i hi him => ?_) h2⟩
        · refine Ev.step (f := fun _ => some _) (fun k => ?_) (Ev.now _)
          simp only [spec_l01Put.l0]
          rw [if_pos (by omega), hw, if_pos (by omega), if_pos (by omega), hrd, if_neg hgt, if_neg he, if_pos (by omega), if_pos (by omega), Int.toNat_natCast, own_val _ (by rw [List.length_take]; omega)]
          simp only [Option.bind_some]
          rw [if_pos (by simp; omega), if_pos (by simp; omega)]
        · by_cases e : i = m
          · subst e; omega
          · have := asc_lt l lo h i m hi hml (by omega)
            omega
theorem put_ev (lo : Int) (l : List Int) (x : Int) (h : Asc lo l) (hx : lo ≤ x) (hl : l.length ≤ 100000) : ∃ r, Ev (fun k => spec_l01Put.f k l x) r ∧ PutOf lo l x r := by
  unfold spec_l01Put.f
  exact put_l0 lo l x h hx hl l.length (Nat.le_refl _) (fun i hi h1 => by omega)
/-- The reference's bits of a row and of a column. -/
theorem place_l2 {W H n y x : Nat} (hW : 1 ≤ W ∧ W ≤ 5) (hH : H ≤ 5) (hn : 1 ≤ n ∧ n ≤ 5) (hy : y < H) (hx : x < W) (xs ships : List Int) (v : List Int)
    (hfin : Ev (fun k => if (wrap64 ((x : Int) + (n : Int))) ≤ (W : Int) then ((spec_l01Put.f k xs ((rowN (W * y + x) 1 n : Nat) : Int)).bind fun t157 => (if (wrap64 ((y : Int) + (n : Int))) ≤ (H : Int) then ((spec_l01Put.f k t157 ((rowN (W * y + x) W n : Nat) : Int)).bind fun t160 => (spec_l09Placements.l1 k n t160 y (wrap64 ((x : Int) + 1)) W H ships)) else (spec_l09Placements.l1 k n t157 y (wrap64 ((x : Int) + 1)) W H ships))) else (if (wrap64 ((y : Int) + (n : Int))) ≤ (H : Int) then ((spec_l01Put.f k xs ((rowN (W * y + x) W n : Nat) : Int)).bind fun t163 => (spec_l09Placements.l1 k n t163 y (wrap64 ((x : Int) + 1)) W H ships)) else (spec_l09Placements.l1 k n xs y (wrap64 ((x : Int) + 1)) W H ships))) v) :
    ∀ d i : Nat, i + d = n → Ev (fun k => spec_l09Placements.l2 k n xs y x ((rowN (W * y + x) 1 i : Nat) : Int) ((rowN (W * y + x) W i : Nat) : Int) i W H ships) v := by
  intro d
  induction d with
  | zero =>
    intro i hi
    have e : i = n := by omega
    subst e
    refine Ev.step (fun k => ?_) hfin
    simp only [spec_l09Placements.l2]
    rw [if_neg (by omega)]
  | succ d ih =>
    intro i hi
    have hWy : W * y ≤ 5 * 4 := Nat.mul_le_mul hW.2 (by omega)
    have hiW : i * W ≤ 4 * 5 := Nat.mul_le_mul (by omega) hW.2
    obtain ⟨p, hp⟩ : ∃ p, W * y = p := ⟨_, rfl⟩
    obtain ⟨q, hq⟩ : ∃ q, i * W = q := ⟨_, rfl⟩
    have hpb : p ≤ 20 := by omega
    have hqb : q ≤ 20 := by omega
    have hxb : x ≤ 5 := by omega
    have hyb : y ≤ 5 := by omega
    have hib : i ≤ 5 := by omega
    have hin : (i : Int) < (n : Int) := by omega
    have b0 : p + x ≤ 1000 := by omega
    have b1 : p + q ≤ 1000 := by omega
    have b2 : y + i ≤ 1000 := by omega
    have b3 : p + x + i ≤ 1000 := by omega
    have b4 : p ≤ 1000 := by omega
    have b5 : x ≤ 1000 := by omega
    have b6 : i ≤ 1000 := by omega
    have b7 : y ≤ 1000 := by omega
    have u1 := u64_nat (p + x + i) (by omega)
    have u2 := u64_nat (p + x + q) (by omega)
    have s1 := shl_nat (p + x + i) (by omega)
    have s2 := shl_nat (p + x + q) (by omega)
    have b60 : ∀ a, a < 60 → 2 ^ a < 9223372036854775808 := fun a ha => Nat.lt_of_lt_of_le (Nat.pow_lt_pow_right (by omega) ha) pow60_le
    have r1 : rowN (p + x) 1 i < 9223372036854775808 := Nat.lt_of_lt_of_le (rowN_lt (p + x) 1 i 60 (fun a ha => by omega)) pow60_le
    have r2 : rowN (p + x) W i < 9223372036854775808 := Nat.lt_of_lt_of_le (rowN_lt (p + x) W i 60 (fun a ha => by
      have : a * W ≤ 4 * 5 := Nat.mul_le_mul (by omega) hW.2
      omega)) pow60_le
    have o1 : Go.bits .or .i64 ((rowN (p + x) 1 i : Nat) : Int) ((2 ^ (p + x + i) : Nat) : Int) = ((rowN (p + x) 1 (i + 1) : Nat) : Int) := by
      rw [bits_or_nat _ _ r1 (b60 _ (by omega))]
      show _ = ((rowN (p + x) 1 i ||| 2 ^ (p + x + i * 1) : Nat) : Int)
      rw [Nat.mul_one]
    have o2 : Go.bits .or .i64 ((rowN (p + x) W i : Nat) : Int) ((2 ^ (p + x + q) : Nat) : Int) = ((rowN (p + x) W (i + 1) : Nat) : Int) := by
      rw [bits_or_nat _ _ r2 (b60 _ (by omega))]
      show _ = ((rowN (p + x) W i ||| 2 ^ (p + x + i * W) : Nat) : Int)
      rw [hq]
    have ih1 := ih (i + 1) (by omega)
    rw [hp] at ih1 ⊢
    have ex : p + q + x = p + x + q := by omega
    have hyw : y * W = p := (Nat.mul_comm y W).trans hp
    have e1 : wrap64 ((y : Int) * (W : Int)) = (p : Int) := wrap_mul hyw b4
    have e2 : wrap64 (wrap64 ((p : Int) + (x : Int)) + (i : Int)) = ((p + x + i : Nat) : Int) := by rw [wrap_add b4 b5]; exact wrap_add b0 b6
    have e3 : wrap64 ((y : Int) + (i : Int)) = ((y + i : Nat) : Int) := wrap_add b7 b6
    have e4 : wrap64 (((y + i : Nat) : Int) * (W : Int)) = ((p + q : Nat) : Int) := wrap_mul (by rw [Nat.add_mul, Nat.mul_comm y W, hp, hq]) b1
    have e5 : wrap64 (((p + q : Nat) : Int) + (x : Int)) = ((p + x + q : Nat) : Int) := by rw [← ex]; exact wrap_add b1 b5
    have e6 : wrap64 ((i : Int) + 1) = ((i + 1 : Nat) : Int) := wrap_one b6
    refine Ev.step (fun k => ?_) ih1
    simp only [spec_l09Placements.l2]
    rw [if_pos hin, e1, e2, e3, e4, e5, u1, u2, if_pos (Int.natCast_nonneg _), if_pos (Int.natCast_nonneg _), s1, s2, o1, o2, e6]
/-- What has been found when all cells before a cell have been looked at. -/
def PlInv (W H n c : Nat) (xs : List Int) : Prop := Asc 0 xs ∧ xs.length ≤ 2 * c ∧ ∀ z, z ∈ xs ↔ z ∈ placeTo W H n c
theorem pl_done {W H n : Nat} {xs : List Int} (hW : 1 ≤ W ∧ W ≤ 5) (hH : H ≤ 5) (hn : 1 ≤ n) (h : PlInv W H n (W * H) xs) : xs = placesOf W H n := by
  have hp := placesOf_asc hW.1 hW.2 hH hn
  exact asc_ext _ _ 0 h.1 hp.1 (fun z => by rw [h.2.2, hp.2])
theorem place_l1 {W H n y : Nat} (hW : 1 ≤ W ∧ W ≤ 5) (hH : H ≤ 5) (hn : 1 ≤ n ∧ n ≤ 5) (hy : y < H) (ships : List Int)
    (hnext : ∀ xs, PlInv W H n (W * (y + 1)) xs → Ev (fun k => spec_l09Placements.l0 k n xs ((y + 1 : Nat) : Int) W H ships) (placesOf W H n)) :
    ∀ (d x : Nat) (xs : List Int), x + d = W → PlInv W H n (W * y + x) xs → Ev (fun k => spec_l09Placements.l1 k n xs y x W H ships) (placesOf W H n) := by
  intro d
  induction d with
  | zero =>
    intro x xs hx hI
    have e : x = W := by omega
    subst e
    have := hnext xs (by rw [Nat.mul_add, Nat.mul_one]; exact hI)
    refine Ev.step (fun k => ?_) this
    simp only [spec_l09Placements.l1]
    rw [if_neg (by omega), wrap_one (a := y) (by omega)]
  | succ d ih =>
    intro x xs hx hI
    have hxW : x < W := by omega
    have hc : W * y + x < W * H := by
      have : W * (y + 1) ≤ W * H := Nat.mul_le_mul_left W hy
      rw [Nat.mul_add, Nat.mul_one] at this
      omega
    have hcs : W * H ≤ 25 := place_small_ hW.2 hH
    have hmod : (W * y + x) % W = x := by rw [Nat.mul_add_mod, Nat.mod_eq_of_lt hxW]
    have hdiv : (W * y + x) / W = y := by rw [Nat.mul_add_div (by omega), Nat.div_eq_of_lt hxW, Nat.add_zero]
    have hat : ∀ z, z ∈ placeTo W H n (W * y + x + 1) ↔ z ∈ placeTo W H n (W * y + x) ∨ ((x + n ≤ W ∧ z = ((rowN (W * y + x) 1 n : Nat) : Int)) ∨ (y + n ≤ H ∧ z = ((rowN (W * y + x) W n : Nat) : Int))) := by
      intro z
      show z ∈ placeTo W H n (W * y + x) ++ placeAt W H n (W * y + x) ↔ _
      rw [List.mem_append]
      unfold placeAt
      rw [hmod, hdiv, List.mem_append]
      by_cases h1 : x + n ≤ W <;> by_cases h2 : y + n ≤ H <;> simp [h1, h2]
    obtain ⟨hA, hL, hM⟩ := hI
    have bx : x ≤ 1000 := by omega
    have by_ : y ≤ 1000 := by omega
    have bn : n ≤ 1000 := by omega
    have hw1 := Aside0.mk (wrap_add bx bn)
    have hw2 := Aside0.mk (wrap_add by_ bn)
    have hw3 := Aside0.mk (wrap_one bx)
    have z0 : ∀ a b m : Nat, (0 : Int) ≤ ((rowN a b m : Nat) : Int) := fun _ _ _ => Int.natCast_nonneg _
    have hnxt : ∀ ys, PlInv W H n (W * y + x + 1) ys → Ev (fun k => spec_l09Placements.l1 k n ys y (wrap64 ((x : Int) + 1)) W H ships) (placesOf W H n) := fun ys h => by
      rw [hw3.out]; exact ih (x + 1) ys (by omega) h
    refine Ev.step (fun k => ?_) (place_l2 hW hH hn hy hxW xs ships (placesOf W H n) ?_ n 0 (by omega))
    · simp only [spec_l09Placements.l1]
      rw [if_pos (by omega)]
      rfl
    · rw [hw1.out, hw2.out]
      by_cases h1 : x + n ≤ W
      · obtain ⟨r1, p1, p1a, p1l, p1m⟩ := put_ev 0 xs _ hA (z0 (W * y + x) 1 n) (by omega)
        by_cases h2 : y + n ≤ H
        · obtain ⟨r2, p2, p2a, p2l, p2m⟩ := put_ev 0 r1 _ p1a (z0 (W * y + x) W n) (by omega)
          refine Ev.congr (fun k => by rw [if_pos (by omega)]) (Ev.bind p1 (Ev.congr (fun k => by rw [if_pos (by omega)]) (Ev.bind p2 (hnxt r2 ⟨p2a, by omega, fun z => ?_⟩))))
          rw [p2m, p1m, hM, hat]; simp [h1, h2, or_assoc]
        · refine Ev.congr (fun k => by rw [if_pos (by omega)]) (Ev.bind p1 (Ev.congr (fun k => by rw [if_neg (by omega)]) (hnxt r1 ⟨p1a, by omega, fun z => ?_⟩)))
          rw [p1m, hM, hat]; simp [h1, h2]
      · by_cases h2 : y + n ≤ H
        · obtain ⟨r2, p2, p2a, p2l, p2m⟩ := put_ev 0 xs _ hA (z0 (W * y + x) W n) (by omega)
          refine Ev.congr (fun k => by rw [if_neg (by omega), if_pos (by omega)]) (Ev.bind p2 (hnxt r2 ⟨p2a, by omega, fun z => ?_⟩))
          rw [p2m, hM, hat]; simp [h1, h2]
        · refine Ev.congr (fun k => by rw [if_neg (by omega), if_neg (by omega)]) (hnxt xs ⟨hA, by omega, fun z => ?_⟩)
          rw [hM, hat]; simp [h1, h2]
theorem place_l0 {W H n : Nat} (hW : 1 ≤ W ∧ W ≤ 5) (hH : H ≤ 5) (hn : 1 ≤ n ∧ n ≤ 5) (ships : List Int) :
    ∀ (d y : Nat) (xs : List Int), y + d = H → PlInv W H n (W * y) xs → Ev (fun k => spec_l09Placements.l0 k n xs y W H ships) (placesOf W H n) := by
  intro d
  induction d with
  | zero =>
    intro y xs hy hI
    have e : y = H := by omega
    subst e
    obtain rfl := pl_done hW hH hn.1 hI
    refine Ev.step (f := fun _ => some (placesOf W y n)) (fun k => ?_) (Ev.now _)
    simp only [spec_l09Placements.l0]
    rw [if_neg (by omega)]
  | succ d ih =>
    intro y xs hy hI
    refine Ev.step (fun k => ?_) (place_l1 hW hH hn (by omega) ships (fun ys h => ih (y + 1) ys (by omega) h) W 0 xs (by omega) (by rw [Nat.add_zero]; exact hI))
    simp only [spec_l09Placements.l0]
    rw [if_pos (by omega)]
    rfl
theorem specPlacements_ev {W H n : Nat} (hW : 1 ≤ W ∧ W ≤ 5) (hH : H ≤ 5) (hn : 1 ≤ n ∧ n ≤ 5) (ships : List Int) : Ev (fun k => spec_l09Placements.f k W H ships n) (placesOf W H n) := by
  unfold spec_l09Placements.f
  exact place_l0 hW hH hn ships H 0 [] (by omega) ⟨trivial, by simp, fun z => by simp [placeTo]⟩
-- Fleets: the program's and the reference's judgement are one.
theorem and_or_zero (m a b : Nat) : m &&& (a ||| b) = 0 ↔ m &&& a = 0 ∧ m &&& b = 0 := by
  rw [Nat.and_or_distrib_left]
  exact Nat.or_eq_zero_iff
theorem pow25_le : 33554432 ≤ 9223372036854775808 := by simp
/-- A ship's place among the fleet's numbers. -/
def numAt (fl : List Int) (j : Nat) : Nat := (rd fl (j : Int)).toNat
/-- What has been used by the first ships. -/
def UsedBy (fl : List Int) (i used : Nat) : Prop := used < 33554432 ∧ (∀ j, j < i → ∃ m : Nat, rd fl (j : Int) = (m : Int) ∧ 0 < m ∧ m < 33554432) ∧ ∀ m, m &&& used = 0 ↔ ∀ j, j < i → m &&& numAt fl j = 0
theorem used_zero (fl : List Int) : UsedBy fl 0 0 := ⟨by simp, fun j h => absurd h (Nat.not_lt_zero _), fun m => ⟨fun _ j h => absurd h (Nat.not_lt_zero _), fun _ => Nat.and_zero m⟩⟩
theorem used_step {fl : List Int} {i used m : Nat} (h : UsedBy fl i used) (hm : rd fl (i : Int) = (m : Int)) (h0 : 0 < m) (h1 : m < 33554432) : UsedBy fl (i + 1) (used ||| m) := by
  obtain ⟨h2, h3, h4⟩ := h
  refine ⟨Nat.or_lt_two_pow (n := 25) h2 h1, fun j hj => ?_, fun q => ?_⟩
  · by_cases e : j = i
    · subst e; exact ⟨m, hm, h0, h1⟩
    · exact h3 j (by omega)
  · rw [and_or_zero, h4]
    constructor
    · rintro ⟨ha, hb⟩ j hj
      by_cases e : j = i
      · subst e; unfold numAt; rw [hm, Int.toNat_natCast]; exact hb
      · exact ha j (by omega)
    · intro ha
      refine ⟨fun j hj => ha j (by omega), ?_⟩
      have := ha i (by omega)
      unfold numAt at this
      rw [hm, Int.toNat_natCast] at this
      exact this
theorem rd_take {l : List Int} {i j : Nat} (h : j < i) : rd (l.take i) (j : Int) = rd l (j : Int) := by
  rw [rd_nat, rd_nat, List.getD_eq_getElem?_getD, List.getD_eq_getElem?_getD, List.getElem?_take, if_pos h]
/-- The reference's test of the next ship. -/
def nextOk (ships fl : List Int) (i : Nat) (used : Nat) : Bool := decide (numAt fl i &&& used = 0) && !(decide (0 < i) && (decide (rd ships (i : Int) = rd ships ((i : Int) - 1)) && decide (rd fl (i : Int) < rd fl ((i : Int) - 1))))
theorem next_goes {ships fl : List Int} {i used : Nat} (hu : UsedBy fl i used) (hi : i < fl.length) {m : Nat} (hm : rd fl (i : Int) = (m : Int)) (h0 : 0 < m) (h1 : m < 33554432) : goesV ships (fl.take i) (rd fl (i : Int)) = nextOk ships fl i used := by
  obtain ⟨hu0, hu1, hu2⟩ := hu
  have hnm : numAt fl i = m := by unfold numAt; rw [hm, Int.toNat_natCast]
  have hlen : (fl.take i).length = i := by rw [List.length_take]; omega
  have hany : ((fl.take i).any fun x => Go.bits .and .i64 x (m : Int) != 0) = !decide (m &&& used = 0) := by
    by_cases hz : m &&& used = 0
    · rw [decide_eq_true hz]
      simp only [Bool.not_true]
      rw [List.any_eq_false]
      intro x hx
      obtain ⟨j, hj, rfl⟩ := List.mem_iff_getElem.1 hx
      rw [hlen] at hj
      obtain ⟨mj, e1, e2, e3⟩ := hu1 j hj
      have hz2 := (hu2 m).1 hz j hj
      unfold numAt at hz2
      rw [e1, Int.toNat_natCast] at hz2
      have e4 : (fl.take i)[j]'(by rw [hlen]; exact hj) = (mj : Int) := by
        rw [← rd_get, rd_take hj, e1]
      rw [e4, bits_and_nat _ _ (Nat.lt_of_lt_of_le e3 pow25_le) (Nat.lt_of_lt_of_le h1 pow25_le), Nat.and_comm, hz2]
      simp
    · rw [decide_eq_false hz]
      simp only [Bool.not_false]
      have hz2 := mt (hu2 m).2 hz
      have : ∃ j, j < i ∧ ¬ (m &&& numAt fl j = 0) := by
        apply Classical.byContradiction
        intro hc
        exact hz2 (fun j hj => Classical.byContradiction fun h => hc ⟨j, hj, h⟩)
      obtain ⟨j, hj, hne⟩ := this
      obtain ⟨mj, e1, e2, e3⟩ := hu1 j hj
      unfold numAt at hne
      rw [e1, Int.toNat_natCast] at hne
      rw [List.any_eq_true]
      refine ⟨(mj : Int), ?_, ?_⟩
      · have e4 : (fl.take i)[j]'(by rw [hlen]; exact hj) = (mj : Int) := by
          rw [← rd_get, rd_take hj, e1]
        rw [← e4]
        exact List.getElem_mem _
      · rw [bits_and_nat _ _ (Nat.lt_of_lt_of_le e3 pow25_le) (Nat.lt_of_lt_of_le h1 pow25_le), Nat.and_comm]
        simp only [bne_iff_ne, ne_eq]
        omega
  unfold goesV nextOk goesStop
  rw [hm, hany, hlen, hnm, Bool.not_not]
  by_cases hz : m &&& used = 0
  · rw [decide_eq_true hz, Bool.and_true, Bool.true_and]
    by_cases hi0 : 0 < i
    · obtain ⟨p, rfl⟩ : ∃ p, i = p + 1 := ⟨i - 1, by omega⟩
      have ep : (((p + 1 : Nat) : Int) - 1) = (p : Int) := by omega
      rw [ep, rd_take (Nat.lt_succ_self p)]
      obtain ⟨mp, e1, e2, e3⟩ := hu1 p (Nat.lt_succ_self p)
      have hz2 := (hu2 m).1 hz p (Nat.lt_succ_self p)
      unfold numAt at hz2
      rw [e1, Int.toNat_natCast] at hz2
      have hne : m ≠ mp := by
        intro e
        rw [← e, Nat.and_self] at hz2
        omega
      rw [e1]
      have : decide ((m : Int) ≤ (mp : Int)) = decide ((m : Int) < (mp : Int)) := decide_eq_decide.2 (by omega)
      rw [this]
    · rw [decide_eq_false hi0]; rfl
  · rw [decide_eq_false hz, Bool.and_false, Bool.false_and]
/-- The judgement from a ship on. -/
def fleetFrom (W H : Nat) (ships fl : List Int) : Nat → Nat → Bool
  | _, 0 => true
  | i, d + 1 => (placesOf W H (rd ships (i : Int)).toNat).contains (rd fl (i : Int)) && goesV ships (fl.take i) (rd fl (i : Int)) && fleetFrom W H ships fl (i + 1) d
def fleetV (W H : Nat) (ships fl : List Int) : Bool := decide (fl.length = ships.length) && fleetFrom W H ships fl 0 fl.length
theorem ships_in {l : List Int} : ∀ (d i : Nat), i + d = l.length → shipsFrom l i d = true → ∀ j, i ≤ j → j < l.length → inW (rd l (j : Int)) 1 5 = true
  | 0, i, hd, _, j, h1, h2 => by omega
  | d + 1, i, hd, h, j, h1, h2 => by
    unfold shipsFrom at h
    simp only [Bool.and_eq_true] at h
    by_cases e : j = i
    · subst e; exact h.1.1
    · exact ships_in d (i + 1) (by omega) h.2 j (by omega) h2
theorem fleet_impl_l0 {W H : Nat} (hW : 1 ≤ W ∧ W ≤ 5) (hH : 1 ≤ H ∧ H ≤ 5) (ships fl : List Int) (hl : fl.length = ships.length) (h3 : ships.length ≤ 3) (hs : ∀ j : Nat, j < ships.length → inW (rd ships (j : Int)) 1 5 = true) :
    ∀ (d i : Nat), i + d = fl.length → Ev (fun k => impl_Sea_isFleet.l0 k fl fl fl.length i W H ships) (fleetFrom W H ships fl i d) := by
  intro d
  induction d with
  | zero =>
    intro i hi
    refine Ev.step (f := fun _ => some true) (fun k => ?_) (Ev.now _)
    simp only [impl_Sea_isFleet.l0]
    rw [if_neg (by omega)]
  | succ d ih =>
    intro i hi
    have hil : i < fl.length := by omega
    have hib : i ≤ 1000 := by omega
    obtain ⟨n, hn, hn1, hn5⟩ := inW_five (hs i (by omega))
    have hp : impl_Sea_placements.f (W : Int) (H : Int) ships (rd ships (i : Int)) = some (placesOf W H n) := by
      unfold impl_Sea_placements.f
      rw [hn, if_pos ⟨inW_of hW.1 hW.2, inW_of hH.1 hH.2, inW_of hn1 hn5⟩]
      simp only [Int.toNat_natCast]
    have hg : impl_Sea_goesOn.f (W : Int) (H : Int) ships (fl.take i) (rd fl (i : Int)) = some (goesV ships (fl.take i) (rd fl (i : Int))) := by
      unfold impl_Sea_goesOn.f
      rw [if_pos ⟨by rw [List.length_take]; omega, by omega⟩]
    have hc := contains_ev (placesOf W H n) (rd fl (i : Int)) (by have := placesOf_len (n := n) hW.2 hH.2; omega)
    have c1 : (i : Int) < (fl.length : Int) := by omega
    have c2 : (0 : Int) ≤ (i : Int) := by omega
    have c3 : (i : Int) < (ships.length : Int) := by omega
    have c4 : (i : Int) ≤ (fl.length : Int) := by omega
    have ih1 := ih (i + 1) (by omega)
    have hw := wrap_one hib
    have hu : fleetFrom W H ships fl i (d + 1) = ((placesOf W H n).contains (rd fl (i : Int)) && goesV ships (fl.take i) (rd fl (i : Int)) && fleetFrom W H ships fl (i + 1) d) := by
      show ((placesOf W H (rd ships (i : Int)).toNat).contains (rd fl (i : Int)) && goesV ships (fl.take i) (rd fl (i : Int)) && fleetFrom W H ships fl (i + 1) d) = _
      rw [hn, Int.toNat_natCast]
    rw [hu]
    refine Ev.step (f := fun k => (slices_Contains_int64_int64.f k (placesOf W H n) (rd fl (i : Int))).bind fun t419 => (if t419 = true then (if goesV ships (fl.take i) (rd fl (i : Int)) = true then (impl_Sea_isFleet.l0 k fl fl fl.length ((i + 1 : Nat) : Int) W H ships) else (some false)) else (some false))) (fun k => ?_) ?_
    · simp only [impl_Sea_isFleet.l0]
      rw [if_pos c1, if_pos c2, if_pos c1, if_pos c3, hp, Option.bind_some, if_pos c4, Int.toNat_natCast, hg, hw]
      simp only [Option.bind_some]
    · refine Ev.bind hc ?_
      cases (placesOf W H n).contains (rd fl (i : Int)) with
      | false => exact Ev.congr (f := fun _ => some false) (fun k => by rw [if_neg (by simp)]) (Ev.now _)
      | true =>
        cases goesV ships (fl.take i) (rd fl (i : Int)) with
        | false => exact Ev.congr (f := fun _ => some false) (fun k => by rw [if_pos rfl, if_neg (by simp)]) (Ev.now _)
        | true => exact Ev.congr (fun k => by rw [if_pos rfl, if_pos rfl]) ih1
theorem implFleet_ev {W H : Nat} (hW : 1 ≤ W ∧ W ≤ 5) (hH : 1 ≤ H ∧ H ≤ 5) (ships fl : List Int) (h3 : ships.length ≤ 3) (hs : ∀ j : Nat, j < ships.length → inW (rd ships (j : Int)) 1 5 = true) : Ev (fun k => impl_Sea_isFleet.f k W H ships fl) (fleetV W H ships fl) := by
  unfold impl_Sea_isFleet.f fleetV
  by_cases hl : fl.length = ships.length
  · rw [decide_eq_true hl, Bool.true_and]
    exact Ev.congr (fun k => by rw [if_pos (by omega)]; rfl) (fleet_impl_l0 hW hH ships fl hl h3 hs fl.length 0 (by omega))
  · rw [decide_eq_false hl]
    exact Ev.congr (f := fun _ => some false) (fun k => by rw [if_neg (by omega)]) (Ev.now _)
/-- The reference's search for the ship in the list. -/
theorem fleet_l1 {W H : Nat} (ships fl P : List Int) (hP : P.length ≤ 1000) (used i : Nat) (hi : i < fl.length) (v : Bool)
    (hyes : Ev (fun k => spec_l09Fleet.l1 k fl used i true P (P.length : Nat) W H ships) v) (hno : v = false ∨ P.contains (rd fl (i : Int)) = true) :
    ∀ (d j : Nat) (b : Bool), j + d = P.length → (b = true ∨ (P.drop j).contains (rd fl (i : Int)) = P.contains (rd fl (i : Int))) → Ev (fun k => spec_l09Fleet.l1 k fl used i b P j W H ships) v := by
  intro d
  induction d with
  | zero =>
    intro j b hj hb
    have e : j = P.length := by omega
    subst e
    cases b with
    | true => exact hyes
    | false =>
      rcases hb with hb | hb
      · cases hb
      · rw [List.drop_length] at hb
        have hv : v = false := by
          rcases hno with h | h
          · exact h
          · rw [h] at hb; cases hb
        subst hv
        refine Ev.step (f := fun _ => some false) (fun k => ?_) (Ev.now _)
        simp only [spec_l09Fleet.l1]
        rw [if_neg (by omega)]
        simp
  | succ d ih =>
    intro j b hj hb
    have hjl : j < P.length := by omega
    have c1 : (j : Int) < (P.length : Int) := by omega
    have c2 : (0 : Int) ≤ (j : Int) := by omega
    have c3 : (0 : Int) ≤ (i : Int) := by omega
    have c4 : (i : Int) < (fl.length : Int) := by omega
    have hjb : j ≤ 1000 := by omega
    have hrd : rd P (j : Int) = P[j] := rd_get P j hjl
    have ih1 := fun b => ih (j + 1) b (by omega)
    have hw := wrap_one hjb
    cases b with
    | true =>
      refine Ev.step (fun k => ?_) (ih1 true (.inl rfl))
      simp only [spec_l09Fleet.l1]
      rw [if_pos c1, if_pos trivial, hw]
    | false =>
      rcases hb with hb | hb
      · cases hb
      rw [List.drop_eq_getElem_cons hjl] at hb
      refine Ev.step (fun k => ?_) (ih1 (P[j] == rd fl (i : Int)) ?_)
      · simp only [spec_l09Fleet.l1]
        rw [if_pos c1, if_neg (by simp), if_pos c2, if_pos c3, if_pos c4, hw, hrd]
      · by_cases e : P[j] = rd fl (i : Int)
        · exact .inl (beq_iff_eq.2 e)
        · right
          rw [← hb]
          have : (rd fl (i : Int) == P[j]) = false := beq_eq_false_iff_ne.2 (fun h => e h.symm)
          simp only [List.contains_cons, this, Bool.false_or]
theorem fleet_spec_l0 {W H : Nat} (hW : 1 ≤ W ∧ W ≤ 5) (hH : 1 ≤ H ∧ H ≤ 5) (ships fl : List Int) (hl : fl.length = ships.length) (h3 : ships.length ≤ 3) (hs : ∀ j : Nat, j < ships.length → inW (rd ships (j : Int)) 1 5 = true) :
    ∀ (d i used : Nat), i + d = fl.length → UsedBy fl i used → Ev (fun k => spec_l09Fleet.l0 k fl used i W H ships) (fleetFrom W H ships fl i d) := by
  intro d
  induction d with
  | zero =>
    intro i used hi _
    refine Ev.step (f := fun _ => some true) (fun k => ?_) (Ev.now _)
    simp only [spec_l09Fleet.l0]
    rw [if_neg (by omega)]
  | succ d ih =>
    intro i used hi hu
    have hil : i < fl.length := by omega
    have hib : i ≤ 1000 := by omega
    obtain ⟨n, hn, hn1, hn5⟩ := inW_five (hs i (by omega))
    have hPe := specPlacements_ev hW hH.2 ⟨hn1, hn5⟩ ships
    have hPl : (placesOf W H n).length ≤ 1000 := by have := placesOf_len (n := n) hW.2 hH.2; omega
    have hPn := placesOf_num hW.1 hW.2 hH.2 hn1
    have hfr : fleetFrom W H ships fl i (d + 1) = ((placesOf W H n).contains (rd fl (i : Int)) && goesV ships (fl.take i) (rd fl (i : Int)) && fleetFrom W H ships fl (i + 1) d) := by
      show ((placesOf W H (rd ships (i : Int)).toNat).contains (rd fl (i : Int)) && goesV ships (fl.take i) (rd fl (i : Int)) && fleetFrom W H ships fl (i + 1) d) = _
      rw [hn, Int.toNat_natCast]
    rw [hfr]
    generalize placesOf W H n = P at hPe hPl hPn hfr ⊢
    have c1 : (i : Int) < (fl.length : Int) := by omega
    have c2 : (0 : Int) ≤ (i : Int) := by omega
    have c3 : (i : Int) < (ships.length : Int) := by omega
    have hw := Aside0.mk (wrap_one hib)
    refine Ev.step (f := fun k => (spec_l09Placements.f k W H ships (rd ships (i : Int))).bind fun t395 => (spec_l09Fleet.l1 k fl used i false t395 0 W H ships)) (fun k => ?_) ?_
    · simp only [spec_l09Fleet.l0]
      rw [if_pos c1, if_pos c2, if_pos c3]
    rw [hn]
    refine Ev.bind hPe ?_
    cases hcon : P.contains (rd fl (i : Int)) with
    | false =>
      rw [Bool.false_and, Bool.false_and]
      have key : ∀ (d j : Nat), j + d = P.length → (P.drop j).contains (rd fl (i : Int)) = false → Ev (fun k => spec_l09Fleet.l1 k fl used i false P j W H ships) false := by
        intro d
        induction d with
        | zero =>
          intro j hj _
          refine Ev.step (f := fun _ => some false) (fun k => ?_) (Ev.now _)
          simp only [spec_l09Fleet.l1]
          rw [if_neg (by omega)]
          simp
        | succ d ihd =>
          intro j hj hb
          have hjl : j < P.length := by omega
          have d1 : (j : Int) < (P.length : Int) := by omega
          have d2 : (0 : Int) ≤ (j : Int) := by omega
          have hjb : j ≤ 1000 := by omega
          have hrd : rd P (j : Int) = P[j] := rd_get P j hjl
          rw [List.drop_eq_getElem_cons hjl, List.contains_cons, Bool.or_eq_false_iff] at hb
          have ih1 := ihd (j + 1) (by omega) hb.2
          have hne : (P[j] == rd fl (i : Int)) = false := beq_eq_false_iff_ne.2 (fun h => beq_eq_false_iff_ne.1 hb.1 h.symm)
          have hw2 := wrap_one hjb
          refine Ev.step (fun k => ?_) ih1
          simp only [spec_l09Fleet.l1]
          rw [if_pos d1, if_neg (by simp), if_pos d2, if_pos c2, if_pos c1, hw2, hrd, hne]
      exact key P.length 0 (by omega) hcon
    | true =>
      rw [Bool.true_and]
      obtain ⟨m, hm, h0, h1⟩ := hPn _ (List.contains_iff_mem.1 hcon)
      have hgo := next_goes (ships := ships) hu hil hm h0 h1
      rw [hgo]
      have ih1 := ih (i + 1) (used ||| m) (by omega) (used_step hu hm h0 h1)
      have hnm : numAt fl i = m := by unfold numAt; rw [hm, Int.toNat_natCast]
      have hbu := bits_and_nat m used (Nat.lt_of_lt_of_le h1 pow25_le) (Nat.lt_of_lt_of_le hu.1 pow25_le)
      have hbo := bits_or_nat used m (Nat.lt_of_lt_of_le hu.1 pow25_le) (Nat.lt_of_lt_of_le h1 pow25_le)
      refine fleet_l1 ships fl P hPl used i hil _ ?_ (.inr hcon) P.length 0 false (by omega) (.inr (by rw [List.drop_zero]))
      have cP : ¬ ((P.length : Nat) : Int) < (P.length : Int) := by omega
      unfold nextOk
      rw [hnm]
      by_cases hz : m &&& used = 0
      · rw [decide_eq_true hz, Bool.true_and]
        by_cases hi0 : 0 < i
        · rw [decide_eq_true hi0, Bool.true_and]
          obtain ⟨p, hp⟩ : ∃ p, i = p + 1 := ⟨i - 1, by omega⟩
          have ep : ((i : Int) - 1) = (p : Int) := by omega
          have e0 : (i : Int) > 0 := by omega
          have e1 : (0 : Int) ≤ (p : Int) := by omega
          have e2 : (p : Int) < (ships.length : Int) := by omega
          have e3 : (p : Int) < (fl.length : Int) := by omega
          have hwp := wrap_num (n := p) (by omega)
          rw [ep]
          by_cases hse : rd ships (i : Int) = rd ships (p : Int)
          · rw [decide_eq_true hse, Bool.true_and]
            by_cases hlt : rd fl (i : Int) < rd fl (p : Int)
            · rw [decide_eq_true hlt]
              refine Ev.step (f := fun _ => some false) (fun k => ?_) (Ev.now _)
              simp only [spec_l09Fleet.l1]
              rw [if_neg cP, if_pos trivial, if_pos c2, if_pos c1, hm, hbu, hz, if_pos (by simp), if_pos e0, if_pos c3, ep, hwp, if_pos e1, if_pos e2, if_pos hse, if_pos e3, if_pos (by rw [← hm]; exact hlt)]
            · rw [decide_eq_false hlt, Bool.not_false, Bool.true_and]
              refine Ev.step (fun k => ?_) ih1
              simp only [spec_l09Fleet.l1]
              rw [if_neg cP, if_pos trivial, if_pos c2, if_pos c1, hm, hbu, hz, if_pos (by simp), if_pos e0, if_pos c3, ep, hwp, if_pos e1, if_pos e2, if_pos hse, if_pos e3, if_neg (by rw [← hm]; exact hlt), hbo, hw.out]
          · rw [decide_eq_false hse, Bool.false_and, Bool.not_false, Bool.true_and]
            refine Ev.step (fun k => ?_) ih1
            simp only [spec_l09Fleet.l1]
            rw [if_neg cP, if_pos trivial, if_pos c2, if_pos c1, hm, hbu, hz, if_pos (by simp), if_pos e0, if_pos c3, ep, hwp, if_pos e1, if_pos e2, if_neg hse, hbo, hw.out]
        · rw [decide_eq_false hi0, Bool.false_and, Bool.not_false, Bool.true_and]
          have e0 : ¬ (i : Int) > 0 := by omega
          refine Ev.step (fun k => ?_) ih1
          simp only [spec_l09Fleet.l1]
          rw [if_neg cP, if_pos trivial, if_pos c2, if_pos c1, hm, hbu, hz, if_pos (by simp), if_neg e0, hbo, hw.out]
      · rw [decide_eq_false hz, Bool.false_and, Bool.false_and]
        refine Ev.step (f := fun _ => some false) (fun k => ?_) (Ev.now _)
        simp only [spec_l09Fleet.l1]
        rw [if_neg cP, if_pos trivial, if_pos c2, if_pos c1, hm, hbu, if_neg (by omega)]
theorem specFleet_ev {W H : Nat} (hW : 1 ≤ W ∧ W ≤ 5) (hH : 1 ≤ H ∧ H ≤ 5) (ships fl : List Int) (h3 : ships.length ≤ 3) (hs : ∀ j : Nat, j < ships.length → inW (rd ships (j : Int)) 1 5 = true) : Ev (fun k => spec_l09Fleet.f k W H ships fl) (fleetV W H ships fl) := by
  unfold spec_l09Fleet.f fleetV
  by_cases hl : fl.length = ships.length
  · rw [decide_eq_true hl, Bool.true_and]
    exact Ev.congr (fun k => by rw [if_pos (by omega)]; rfl) (fleet_spec_l0 hW hH ships fl hl h3 hs fl.length 0 0 (by omega) (used_zero fl))
  · rw [decide_eq_false hl]
    exact Ev.congr (f := fun _ => some false) (fun k => by rw [if_neg (by omega)]) (Ev.now _)
theorem placeAt_bound {w h n c : Nat} (hw : 1 ≤ w) (hc : c < w * h) : ∀ z ∈ placeAt w h n c, ∃ m : Nat, z = (m : Int) ∧ m < 2 ^ (w * h) := by
  intro z hz
  unfold placeAt at hz
  have hdm := Nat.div_add_mod c w
  have hml := Nat.mod_lt c (show 0 < w by omega)
  have hdh : c / w < h := Nat.div_lt_of_lt_mul hc
  generalize c / w = y at *
  generalize c % w = x at *
  have hwy : w * (y + 1) ≤ w * h := Nat.mul_le_mul_left w hdh
  rw [Nat.mul_add, Nat.mul_one] at hwy
  rcases List.mem_append.1 hz with hz | hz
  · split at hz
    · rw [List.mem_singleton] at hz
      subst hz
      refine ⟨_, rfl, rowN_lt c 1 n (w * h) fun i hi => ?_⟩
      omega
    · cases hz
  · split at hz
    · rw [List.mem_singleton] at hz
      subst hz
      refine ⟨_, rfl, rowN_lt c w n (w * h) fun i hi => ?_⟩
      rename_i hyn
      have h1 : w * (y + i + 1) ≤ w * h := Nat.mul_le_mul_left w (by omega)
      rw [Nat.mul_add, Nat.mul_add, Nat.mul_one, Nat.mul_comm w i] at h1
      omega
    · cases hz
theorem placeTo_bound {w h n : Nat} (hw : 1 ≤ w) : ∀ k, k ≤ w * h → ∀ z ∈ placeTo w h n k, ∃ m : Nat, z = (m : Int) ∧ m < 2 ^ (w * h)
  | 0, _, z, hz => by cases hz
  | k + 1, hk, z, hz => by
    rcases List.mem_append.1 hz with hz | hz
    · exact placeTo_bound hw k (by omega) z hz
    · exact placeAt_bound hw (by omega) z hz
theorem placesOf_bound {w h n : Nat} (hw : 1 ≤ w) (hw5 : w ≤ 5) (hh : h ≤ 5) (hn : 1 ≤ n) : ∀ z ∈ placesOf w h n, ∃ m : Nat, z = (m : Int) ∧ m < 2 ^ (w * h) :=
  fun z hz => placeTo_bound hw _ (Nat.le_refl _) z (((placesOf_asc hw hw5 hh hn).2 z).1 hz)
-- The text of a fleet: the reference's is the program's. (for 23 19)
-- cellSg rowTo rowsTo textV idxK bitIn fleetV bit_nat bits_and_nat u64_nat wrap_one pow25_le
theorem fleet_from_at {W H : Nat} {ships fl : List Int} : ∀ (d i : Nat), i + d = fl.length → fleetFrom W H ships fl i d = true → ∀ j, i ≤ j → j < fl.length → goesV ships (fl.take j) (rd fl (j : Int)) = true
  | 0, i, hd, _, j, h1, h2 => by omega
  | d + 1, i, hd, h, j, h1, h2 => by
    unfold fleetFrom at h
    simp only [Bool.and_eq_true] at h
    by_cases e : j = i
    · subst e; exact h.1.2
    · exact fleet_from_at d (i + 1) (by omega) h.2 j (by omega) h2
theorem fleet_apart {W H : Nat} {ships fl : List Int} (hv : fleetV W H ships fl = true) (hnum : ∀ x ∈ fl, ∃ m : Nat, x = (m : Int) ∧ m < 33554432) {i j c : Nat} (hij : i < j) (hj : j < fl.length) (hc : c ≤ 24) (hb : bitIn (fl[i]'(by omega)) (c : Int) = true) : bitIn fl[j] (c : Int) = false := by
  unfold fleetV at hv
  simp only [Bool.and_eq_true] at hv
  have hg := fleet_from_at fl.length 0 (by omega) hv.2 j (by omega) hj
  rw [rd_get fl j hj] at hg
  unfold goesV at hg
  simp only [Bool.and_eq_true] at hg
  have h2 := hg.2
  obtain ⟨a, ea, ha⟩ := hnum _ (List.getElem_mem (show i < fl.length by omega))
  obtain ⟨b, eb, hb2⟩ := hnum _ (List.getElem_mem hj)
  rw [ea] at hb
  rw [eb] at h2 ⊢
  have hz : Go.bits .and .i64 (a : Int) (b : Int) = 0 := by
    have h3 : ((fl.take j).any fun x => Go.bits .and .i64 x (b : Int) != 0) = false := by simpa using h2
    have h4 := List.any_eq_false.1 h3 (a : Int) (by rw [← ea]; exact List.mem_iff_getElem.2 ⟨i, by rw [List.length_take]; omega, by rw [List.getElem_take]⟩)
    simpa using h4
  rw [bits_and_nat a b (Nat.lt_of_lt_of_le ha pow25_le) (Nat.lt_of_lt_of_le hb2 pow25_le)] at hz
  have hz2 : a &&& b = 0 := by omega
  unfold bitIn at hb ⊢
  rw [bit_nat a c (Nat.lt_of_lt_of_le ha pow25_le) (by omega)] at hb
  rw [bit_nat b c (Nat.lt_of_lt_of_le hb2 pow25_le) (by omega)]
  have hta : a.testBit c = true := by
    by_cases h : a.testBit c = true
    · exact h
    · rw [if_neg h] at hb; simp at hb
  have htb : b.testBit c = false := by
    have := congrArg (fun z => Nat.testBit z c) hz2
    simp only [Nat.testBit_and, hta, Bool.true_and, Nat.zero_testBit] at this
    exact this
  rw [htb]; rfl
theorem idx_spec (p : Int → Bool) : ∀ (l : List Int) (i : Nat), (idxK p l i = -1 ∧ ∀ q (h : q < l.length), p l[q] = false) ∨ ∃ (j : Nat) (h : j < l.length), idxK p l i = ((i + j : Nat) : Int) ∧ p l[j] = true
  | [], i => .inl ⟨rfl, fun q h => absurd h (by simp)⟩
  | x :: r, i => by
    unfold idxK
    cases h : p x with
    | true => exact .inr ⟨0, by simp, by simp, by simpa using h⟩
    | false =>
      rcases idx_spec p r (i + 1) with ⟨h1, h2⟩ | ⟨j, hj, h1, h2⟩
      · refine .inl ⟨by simpa using h1, fun q hq => ?_⟩
        cases q with
        | zero => simpa using h
        | succ q => simpa using h2 q (by simpa using hq)
      · refine .inr ⟨j + 1, by simpa using hj, ?_, by simpa using h2⟩
        rw [if_neg (by simp), h1]
        congr 1
        omega
/-- A cell's sign, as the reference's loop finds it. -/
theorem text_sign {W H : Nat} {ships fl : List Int} (hv : fleetV W H ships fl = true) (hnum : ∀ x ∈ fl, ∃ m : Nat, x = (m : Int) ∧ m < 33554432) (hl : fl.length ≤ 3) {c : Nat} (hc : c ≤ 24) (T : ByteArray) (hT : T.size ≤ 1000) (a0 a1 : Int) (v : ByteArray)
    (hfin : Ev (fun k => spec_l09Text.l0 k fl (T ++ strOfNums [cellSg fl c]) ((c + 1 : Nat) : Int) a0 a1 ships) v) : Ev (fun k => spec_l09Text.l1 k fl T (c : Int) (⟨#[46]⟩ : ByteArray) 0 a0 a1 ships) v := by
  obtain ⟨ix, hix⟩ : ∃ ix, idxK (fun own => bitIn own (c : Int)) fl 0 = ix := ⟨_, rfl⟩
  have hsg : cellSg fl c = ([46, 97, 98, 99] : List Int).getD (ix + 1).toNat 46 := by unfold cellSg; rw [hix]
  have huniq : ∀ q (h : q < fl.length), bitIn fl[q] (c : Int) = decide (ix = (q : Int)) := by
    intro q hq
    rcases idx_spec (fun own => bitIn own (c : Int)) fl 0 with ⟨h1, h2⟩ | ⟨j, hj, h1, h2⟩
    · rw [h2 q hq, decide_eq_false (by rw [← hix, h1]; omega)]
    · have e : ix = (j : Int) := by rw [← hix, h1, Nat.zero_add]
      rw [e]
      by_cases hq2 : q = j
      · subst hq2
        rw [decide_eq_true rfl]
        exact h2
      · rw [decide_eq_false (by omega)]
        rcases Nat.lt_or_gt_of_ne hq2 with h | h
        · cases hb : bitIn fl[q] (c : Int) with
          | false => rfl
          | true =>
            have h3 := fleet_apart hv hnum h hj hc hb
            have h4 : bitIn fl[j] (c : Int) = true := h2
            rw [h3] at h4
            cases h4
        · exact fleet_apart hv hnum h hq hc h2
  have hixr : ix = -1 ∨ ∃ j : Nat, ix = (j : Int) ∧ j < fl.length := by
    rcases idx_spec (fun own => bitIn own (c : Int)) fl 0 with ⟨h1, _⟩ | ⟨j, hj, h1, _⟩
    · exact .inl (by rw [← hix, h1])
    · exact .inr ⟨j, by rw [← hix, h1, Nat.zero_add], hj⟩
  clear hix
  have hu := u64_nat c (by omega)
  have hw := wrap_one (a := c) (by omega)
  have key : ∀ (d i : Nat), i + d = fl.length → Ev (fun k => spec_l09Text.l1 k fl T (c : Int) (if 0 ≤ ix ∧ ix < (i : Int) then strOfNums [97 + ix] else (⟨#[46]⟩ : ByteArray)) i a0 a1 ships) v := by
    intro d
    induction d with
    | zero =>
      intro i hi
      have hs : (if 0 ≤ ix ∧ ix < (i : Int) then strOfNums [97 + ix] else (⟨#[46]⟩ : ByteArray)) = strOfNums [cellSg fl c] := by
        rw [hsg]
        rcases hixr with h | ⟨j, h, hj⟩
        · rw [if_neg (by omega), h]; rfl
        · rw [if_pos (by omega), h]
          have : j = 0 ∨ j = 1 ∨ j = 2 := by omega
          rcases this with h | h | h <;> subst h <;> rfl
      rw [hs]
      refine Ev.step (fun k => ?_) hfin
      simp only [spec_l09Text.l1]
      have hz : (strOfNums [cellSg fl c]).size = 1 := rfl
      rw [if_neg (by omega), if_pos (by rw [hz]; omega), hw]
    | succ d ih =>
      intro i hi
      have hlt : i < fl.length := by omega
      have ih1 := ih (i + 1) (by omega)
      have hw2 := wrap_one (a := i) (by omega)
      have hb := huniq i hlt
      unfold bitIn at hb
      refine Ev.step (fun k => ?_) ih1
      simp only [spec_l09Text.l1]
      rw [if_pos (show (i : Int) < (fl.length : Int) by omega), if_pos (by omega), hu, if_pos (by omega), rd_get fl i hlt, hw2]
      by_cases h : ix = (i : Int)
      · rw [decide_eq_true h] at hb
        rw [if_pos (beq_iff_eq.1 hb), if_pos (show 0 ≤ ix ∧ ix < ((i + 1 : Nat) : Int) by omega), h]
        have : i = 0 ∨ i = 1 ∨ i = 2 := by omega
        have he : (wrap64 (97 + (i : Int))) % 256 = 97 + (i : Int) := by have w97 := wrap_add (a := 97) (b := i) (by omega) (by omega); rw [show ((97 : Nat) : Int) = 97 from rfl] at w97; rw [w97]; clear w97; omega
        rw [he]
      · rw [decide_eq_false h] at hb
        rw [if_neg (beq_eq_false_iff_ne.1 hb)]
        congr 1
        by_cases h2 : 0 ≤ ix ∧ ix < (i : Int)
        · rw [if_pos h2, if_pos (by omega)]
        · rw [if_neg h2, if_neg (by omega)]
  have := key fl.length 0 (by omega)
  rwa [if_neg (by omega)] at this
def cellB (fl : List Int) (W c : Nat) : List UInt8 := (if 0 < c ∧ c % W = 0 then [47] else []) ++ [UInt8.ofNat (cellSg fl c).toNat]
def textTo (fl : List Int) (W c : Nat) : List UInt8 := (List.range c).flatMap (cellB fl W)
theorem textTo_succ (fl : List Int) (W c : Nat) : textTo fl W (c + 1) = textTo fl W c ++ cellB fl W c := by simp [textTo, List.range_succ]
theorem textTo_len (fl : List Int) (W : Nat) : ∀ c, (textTo fl W c).length ≤ 2 * c
  | 0 => by simp [textTo]
  | c + 1 => by
    have := textTo_len fl W c
    rw [textTo_succ, List.length_append]
    unfold cellB
    split <;> simp <;> omega
theorem ba_app (a b : List UInt8) : ((⟨a.toArray⟩ : ByteArray) ++ (⟨b.toArray⟩ : ByteArray)) = ⟨(a ++ b).toArray⟩ := by
  apply ByteArray.ext
  simp
theorem text_ev {W H : Nat} (hW : 1 ≤ W ∧ W ≤ 5) (hH : 1 ≤ H ∧ H ≤ 5) {ships fl : List Int} (hv : fleetV W H ships fl = true) (hnum : ∀ x ∈ fl, ∃ m : Nat, x = (m : Int) ∧ m < 33554432) (hl : fl.length ≤ 3) : Ev (fun k => spec_l09Text.f k (W : Int) (H : Int) ships fl) (⟨(textTo fl W (W * H)).toArray⟩ : ByteArray) := by
  unfold spec_l09Text.f
  obtain ⟨N, hN⟩ : ∃ N, W * H = N := ⟨_, rfl⟩
  have hN25 : N ≤ 25 := by rw [← hN]; exact Nat.mul_le_mul hW.2 hH.2
  have hwn := Aside0.mk (wrap_mul hN (by omega))
  rw [hN]
  have key : ∀ (d c : Nat), c + d = N → Ev (fun k => spec_l09Text.l0 k fl (⟨(textTo fl W c).toArray⟩ : ByteArray) c W H ships) (⟨(textTo fl W N).toArray⟩ : ByteArray) := by
    intro d
    induction d with
    | zero =>
      intro c hc
      have e : c = N := by omega
      subst e
      refine Ev.step (f := fun _ => some _) (fun k => ?_) (Ev.now _)
      simp only [spec_l09Text.l0]
      rw [hwn.out, if_neg (by omega)]
    | succ d ih =>
      intro c hc
      have ih1 := ih (c + 1) (by omega)
      have hsz := textTo_len fl W c
      have hs : strOfNums [cellSg fl c] = (⟨[UInt8.ofNat (cellSg fl c).toNat].toArray⟩ : ByteArray) := rfl
      rw [textTo_succ] at ih1
      unfold cellB at ih1
      by_cases hs1 : 0 < c ∧ c % W = 0
      · rw [if_pos hs1, ← List.append_assoc, ← ba_app, ← hs] at ih1
        have hsz2 : (⟨(textTo fl W c ++ [47]).toArray⟩ : ByteArray).size ≤ 1000 := by
          show (textTo fl W c ++ [47]).toArray.size ≤ 1000
          simp; omega
        have e2 := text_sign hv hnum hl (by omega) _ hsz2 (W : Int) (H : Int) _ ih1
        have hsz3 : (⟨(textTo fl W c).toArray⟩ : ByteArray).size = (textTo fl W c).length := rfl
        have hap : ((⟨(textTo fl W c).toArray⟩ : ByteArray) ++ (⟨#[47]⟩ : ByteArray)) = ⟨(textTo fl W c ++ [47]).toArray⟩ := ba_app _ [47]
        refine Ev.step (f := fun k => spec_l09Text.j1 k fl (⟨(textTo fl W c).toArray⟩ : ByteArray) c true W H ships) (fun k => ?_) (Ev.step (f := fun k => spec_l09Text.j2 k fl (⟨(textTo fl W c ++ [47]).toArray⟩ : ByteArray) c W H ships) (fun k => ?_) (Ev.step (fun k => ?_) e2))
        · simp only [spec_l09Text.l0]
          have ht : Int.tmod (c : Int) (W : Int) = ((c % W : Nat) : Int) := rfl
          rw [hwn.out, if_pos (by omega), if_pos (by omega), if_neg (by omega), ht, hs1.2]
          rfl
        · simp only [spec_l09Text.j1]
          rw [if_pos trivial, if_pos (by omega), hap]
        · simp only [spec_l09Text.j2]
      · rw [if_neg hs1, List.nil_append, ← ba_app, ← hs] at ih1
        have hsz2 : (⟨(textTo fl W c).toArray⟩ : ByteArray).size ≤ 1000 := by
          show (textTo fl W c).toArray.size ≤ 1000
          simp; omega
        have e2 := text_sign hv hnum hl (by omega) _ hsz2 (W : Int) (H : Int) _ ih1
        refine Ev.step (f := fun k => spec_l09Text.j1 k fl (⟨(textTo fl W c).toArray⟩ : ByteArray) c false W H ships) (fun k => ?_) (Ev.step (f := fun k => spec_l09Text.j2 k fl (⟨(textTo fl W c).toArray⟩ : ByteArray) c W H ships) (fun k => ?_) (Ev.step (fun k => ?_) e2))
        · simp only [spec_l09Text.l0]
          rw [hwn.out, if_pos (by omega)]
          by_cases h0 : (c : Int) > 0
          · have ht : Int.tmod (c : Int) (W : Int) = ((c % W : Nat) : Int) := rfl
            have hne : ¬ c % W = 0 := fun h => hs1 ⟨by omega, h⟩
            rw [if_pos h0, if_neg (by omega), ht, show (((c % W : Nat) : Int) == 0) = false from beq_eq_false_iff_ne.mpr (by omega)]
          · rw [if_neg h0]
        · simp only [spec_l09Text.j1]
          rw [if_neg (by simp)]
        · simp only [spec_l09Text.j2]
  exact key N 0 (by omega)
/-- Joined rows are the cells one by one. -/
theorem row_cells (fl : List Int) {W y : Nat} (hW : 0 < W) : ∀ x, x ≤ W → 0 < x → (List.range x).flatMap (fun i => cellB fl W (y * W + i)) = (if 0 < y then [47] else []) ++ (strOfNums (rowTo fl W y x)).data.toList := by
  intro x
  induction x with
  | zero => intro _ h; omega
  | succ x ih =>
    intro hx _
    rw [List.range_succ, List.flatMap_append, rowTo_succ]
    have hd : (strOfNums (rowTo fl W y x ++ [cellSg fl (y * W + x)])).data.toList = (strOfNums (rowTo fl W y x)).data.toList ++ [UInt8.ofNat (cellSg fl (y * W + x)).toNat] := by simp [strOfNums]
    rw [hd]
    by_cases h0 : x = 0
    · subst h0
      have he : (List.range 0).flatMap (fun i => cellB fl W (y * W + i)) = [] := rfl
      have hr : (strOfNums (rowTo fl W y 0)).data.toList = [] := rfl
      rw [he, hr, List.nil_append, List.nil_append, List.flatMap_singleton, Nat.add_zero]
      unfold cellB
      by_cases hy : 0 < y
      · rw [if_pos hy, if_pos ⟨Nat.mul_pos hy hW, Nat.mul_mod_left y W⟩]
      · have : y = 0 := by omega
        subst this
        rw [if_neg hy, if_neg (by simp)]
    · rw [ih (by omega) (by omega), List.flatMap_singleton, List.append_assoc]
      congr 1
      congr 1
      unfold cellB
      have hm : (y * W + x) % W = x := by rw [Nat.mul_comm, Nat.mul_add_mod]; exact Nat.mod_eq_of_lt (by omega)
      rw [if_neg (by rw [hm]; omega)]
      rfl
theorem join_snoc (sep : List UInt8) : ∀ (xs : List (List UInt8)) (z : List UInt8), xs ≠ [] → Lib.join (xs ++ [z]) sep = Lib.join xs sep ++ (sep ++ z)
  | [], _, h => absurd rfl h
  | [a], z, _ => by simp [Lib.join, List.intercalate, List.intersperse]
  | a :: b :: r, z, _ => by
    have ih := join_snoc sep (b :: r) z (by simp)
    have e : ∀ q : List (List UInt8), Lib.join (a :: b :: q) sep = a ++ (sep ++ Lib.join (b :: q) sep) := fun q => by simp [Lib.join, List.intercalate, List.intersperse]
    rw [List.cons_append, List.cons_append, e, e, ← List.cons_append, ih]
    simp [List.append_assoc]
theorem join_text (fl : List Int) {W : Nat} (hW : 0 < W) : ∀ y, 0 < y → Lib.join ((rowsTo fl W y).map (·.data.toList)) [47] = textTo fl W (y * W) := by
  intro y
  induction y with
  | zero => intro h; omega
  | succ y ih =>
    intro _
    have hc := row_cells fl (y := y) hW W (Nat.le_refl _) hW
    have ht : textTo fl W ((y + 1) * W) = textTo fl W (y * W) ++ (List.range W).flatMap (fun i => cellB fl W (y * W + i)) := by
      unfold textTo
      rw [Nat.succ_mul, List.range_add, List.flatMap_append, List.flatMap_map]
    rw [ht, hc, rowsTo_succ, List.map_append, List.map_cons, List.map_nil]
    by_cases h0 : y = 0
    · subst h0
      have e1 : rowsTo fl W 0 = [] := rfl
      have e2 : textTo fl W (0 * W) = [] := by rw [Nat.zero_mul]; rfl
      rw [e1, e2, if_neg (by omega)]
      simp [Lib.join, List.intercalate, List.intersperse]
    · rw [join_snoc _ _ _ (by
        intro h
        have := congrArg List.length h
        rw [List.length_map, rowsTo_len] at this
        exact h0 (by simpa using this)), ih (by omega), if_pos (by omega)]
theorem textV_eq {W H : Nat} (hW : 0 < W) (hH : 0 < H) (fl : List Int) : textV W H fl = ⟨(textTo fl W (W * H)).toArray⟩ := by
  unfold textV
  rw [join_text fl hW H hH, Nat.mul_comm]
-- What is read back from the text of a fleet, plain. (for 19)
-- cellSg textTo cellB idx_spec fleet_apart bitIn
def sgB (fl : List Int) (c : Nat) : UInt8 := UInt8.ofNat (cellSg fl c).toNat
theorem cellSg_cases (fl : List Int) (c : Nat) : cellSg fl c = 46 ∨ cellSg fl c = 97 ∨ cellSg fl c = 98 ∨ cellSg fl c = 99 := by
  unfold cellSg
  generalize (idxK (fun own => bitIn own (c : Int)) fl 0 + 1).toNat = n
  match n with
  | 0 => exact .inl rfl
  | 1 => exact .inr (.inl rfl)
  | 2 => exact .inr (.inr (.inl rfl))
  | 3 => exact .inr (.inr (.inr rfl))
  | _ + 4 => exact .inl rfl
theorem sgB_ne (fl : List Int) (c : Nat) : (sgB fl c != 47) = true := by
  unfold sgB
  rcases cellSg_cases fl c with h | h | h | h <;> rw [h] <;> rfl
def noSl (l : List UInt8) : List UInt8 := l.filter fun b => b != 47
theorem noS_cell (fl : List Int) (W c : Nat) : noSl (cellB fl W c) = [sgB fl c] := by
  have h := sgB_ne fl c
  unfold noSl cellB
  unfold sgB at h ⊢
  rw [List.filter_append, List.filter_cons, if_pos h]
  split <;> rfl
theorem noS_text (fl : List Int) (W : Nat) : ∀ c, noSl (textTo fl W c) = (List.range c).map (sgB fl)
  | 0 => rfl
  | c + 1 => by
    rw [textTo_succ, List.range_succ, List.map_append, ← noS_text fl W c]
    unfold noSl
    rw [List.filter_append]
    have := noS_cell fl W c
    unfold noSl at this
    rw [this]
    rfl
/-- The fleet, as far as its first cells. -/
def cutTo (fl : List Int) (c : Nat) : List Int := fl.map fun x => ((x.toNat % 2 ^ c : Nat) : Int)
theorem cutTo_len (fl : List Int) (c : Nat) : (cutTo fl c).length = fl.length := by simp [cutTo]
theorem cutTo_zero (fl : List Int) : cutTo fl 0 = List.replicate fl.length 0 := by
  unfold cutTo
  refine List.ext_getElem (by simp) (fun i h1 h2 => ?_)
  simp [Nat.mod_one]
theorem cutTo_all {fl : List Int} {c : Nat} (h : ∀ x ∈ fl, ∃ m : Nat, x = (m : Int) ∧ m < 2 ^ c) : cutTo fl c = fl := by
  unfold cutTo
  refine List.ext_getElem (by simp) (fun i h1 h2 => ?_)
  obtain ⟨m, e, hm⟩ := h fl[i] (List.getElem_mem h2)
  rw [List.getElem_map, e, Int.toNat_natCast, Nat.mod_eq_of_lt hm]
theorem mod_bit (m c : Nat) : m % 2 ^ (c + 1) = m % 2 ^ c + if m.testBit c = true then 2 ^ c else 0 := by
  rw [Nat.mod_pow_succ, Nat.testBit_eq_decide_div_mod_eq]
  rcases Nat.mod_two_eq_zero_or_one (m / 2 ^ c) with h | h <;> simp [h]
def readStep (s : List UInt8) (pos : Nat) (out : List Int) : List Int :=
  if 0 ≤ ((s.getD pos 0).toNat : Int) - 97 ∧ ((s.getD pos 0).toNat : Int) - 97 < (out.length : Int) ∧ pos < 25 then out.set (((s.getD pos 0).toNat : Int) - 97).toNat (Go.bits .or .i64 (rd out (((s.getD pos 0).toNat : Int) - 97)) (shl .i64 1 (pos : Int))) else out
theorem bitIn_test {m c : Nat} (hm : m < 33554432) (hc : c ≤ 24) : bitIn (m : Int) (c : Int) = m.testBit c := by
  unfold bitIn
  rw [bit_nat m c (Nat.lt_of_lt_of_le hm pow25_le) (by omega)]
  cases m.testBit c <;> rfl
theorem step_cut {W H : Nat} {ships fl : List Int} (hv : fleetV W H ships fl = true) (hnum : ∀ x ∈ fl, ∃ m : Nat, x = (m : Int) ∧ m < 33554432) (hl : fl.length ≤ 3) {c n : Nat} (hc : c < n) (hn : n ≤ 25) : readStep ((List.range n).map (sgB fl)) c (cutTo fl c) = cutTo fl (c + 1) := by
  have hg : ((List.range n).map (sgB fl)).getD c 0 = sgB fl c := by
    rw [List.getD_eq_getElem?_getD, List.getElem?_eq_getElem (by simpa using hc)]
    simp
  unfold readStep
  rw [hg]
  have hsg : sgB fl c = UInt8.ofNat (cellSg fl c).toNat := rfl
  rcases idx_spec (fun own => bitIn own (c : Int)) fl 0 with ⟨h1, h2⟩ | ⟨j, hj, h1, h2⟩
  · have e : cellSg fl c = 46 := by unfold cellSg; rw [h1]; rfl
    rw [hsg, e, if_neg (by simp)]
    refine List.ext_getElem (by simp [cutTo]) (fun i i1 i2 => ?_)
    have hi : i < fl.length := by simpa [cutTo] using i1
    obtain ⟨m, em, hm⟩ := hnum fl[i] (List.getElem_mem hi)
    have hb : bitIn fl[i] (c : Int) = false := h2 i hi
    rw [em, bitIn_test hm (by omega)] at hb
    simp only [cutTo, List.getElem_map, em, Int.toNat_natCast]
    rw [mod_bit, hb]
    simp
  · have e : cellSg fl c = 97 + (j : Int) := by
      unfold cellSg
      rw [h1]
      match j, hj with
      | 0, _ => rfl
      | 1, _ => rfl
      | 2, _ => rfl
      | j + 3, hj => omega
    have e2 : ((sgB fl c).toNat : Int) - 97 = (j : Int) := by
      rw [hsg, e]
      match j, hj with
      | 0, _ => rfl
      | 1, _ => rfl
      | 2, _ => rfl
      | j + 3, hj => omega
    rw [e2, if_pos ⟨by omega, by rw [cutTo_len]; omega, by omega⟩, Int.toNat_natCast]
    refine List.ext_getElem (by simp [cutTo]) (fun i i1 i2 => ?_)
    have hi : i < fl.length := by simpa [cutTo] using i2
    obtain ⟨m, em, hm⟩ := hnum fl[i] (List.getElem_mem hi)
    rw [List.getElem_set]
    by_cases hij : j = i
    · subst hij
      rw [if_pos rfl]
      have hb : bitIn fl[j] (c : Int) = true := h2
      rw [em, bitIn_test hm (by omega)] at hb
      have hr : rd (cutTo fl c) (j : Int) = ((m % 2 ^ c : Nat) : Int) := by
        rw [rd_get _ j (by rw [cutTo_len]; exact hi)]
        simp only [cutTo, List.getElem_map, em, Int.toNat_natCast]
      have hp : 2 ^ c < 33554432 := Nat.lt_of_lt_of_le (Nat.pow_lt_pow_right (by omega) (show c < 25 by omega)) (by simp)
      rw [hr, shl_nat c (by omega), bits_or_nat _ _ (Nat.lt_of_le_of_lt (Nat.mod_le _ _) (Nat.lt_of_lt_of_le hm pow25_le)) (Nat.lt_of_lt_of_le hp pow25_le)]
      simp only [cutTo, List.getElem_map, em, Int.toNat_natCast]
      rw [mod_bit, hb, if_pos rfl]
      congr 1
      rw [Nat.or_comm, Nat.add_comm]
      have := Nat.two_pow_add_eq_or_of_lt (Nat.mod_lt m (Nat.two_pow_pos c)) 1
      rw [Nat.mul_one] at this
      exact this.symm
    · rw [if_neg hij]
      have hb : bitIn fl[i] (c : Int) = false := by
        rcases Nat.lt_or_gt_of_ne hij with h | h
        · exact fleet_apart hv hnum h hi (by omega) h2
        · cases hb : bitIn fl[i] (c : Int) with
          | false => rfl
          | true =>
            have := fleet_apart hv hnum h hj (by omega) hb
            rw [h2] at this
            exact absurd this (by simp)
      rw [em, bitIn_test hm (by omega)] at hb
      simp only [cutTo, List.getElem_map, em, Int.toNat_natCast]
      rw [mod_bit, hb]
      simp
/-- All is read: the fleet. -/
def readTo (s : List UInt8) : Nat → Nat → List Int → List Int
  | 0, _, out => out
  | d + 1, pos, out => readTo s d (pos + 1) (readStep s pos out)
theorem read_cut {W H : Nat} {ships fl : List Int} (hv : fleetV W H ships fl = true) (hnum : ∀ x ∈ fl, ∃ m : Nat, x = (m : Int) ∧ m < 33554432) (hl : fl.length ≤ 3) {n : Nat} (hn : n ≤ 25) : ∀ d c, c + d = n → readTo ((List.range n).map (sgB fl)) d c (cutTo fl c) = cutTo fl n
  | 0, c, h => by rw [show c = n by omega]; rfl
  | d + 1, c, h => by
    unfold readTo
    rw [step_cut hv hnum hl (show c < n by omega) hn]
    exact read_cut hv hnum hl hn d (c + 1) (by omega)
theorem readStep_len (s : List UInt8) (pos : Nat) (out : List Int) : (readStep s pos out).length = out.length := by
  unfold readStep
  split <;> simp
-- Reading by runes, plain. (for 19)
-- readStep readTo
def readAll (s : ByteArray) : Nat → Nat → List Int → List Int
  | 0, _, out => out
  | f + 1, pos, out => if pos < s.size then readAll s f (pos + (Utf8.decode s pos).2) (readStep s.data.toList pos out) else out
theorem readAll_len (s : ByteArray) : ∀ (f pos : Nat) (out : List Int), (readAll s f pos out).length = out.length
  | 0, _, _ => rfl
  | f + 1, pos, out => by
    unfold readAll
    split
    · rw [readAll_len s f, readStep_len]
    · rfl
theorem readAll_ascii (s : ByteArray) (h : ∀ (i : Nat) (hi : i < s.size), (s[i]'hi).toNat < 128) : ∀ (f pos : Nat) (out : List Int), s.size - pos ≤ f → readAll s f pos out = readTo s.data.toList (s.size - pos) pos out
  | 0, pos, out, hf => by
    rw [show s.size - pos = 0 by omega]
    rfl
  | f + 1, pos, out, hf => by
    unfold readAll
    by_cases hp : pos < s.size
    · rw [if_pos hp, decode_ascii s pos hp (h pos hp), readAll_ascii s h f (pos + 1) _ (by omega)]
      obtain ⟨d, hd⟩ : ∃ d, s.size - pos = d + 1 := ⟨s.size - pos - 1, by omega⟩
      rw [hd, show s.size - (pos + 1) = d by omega]
      rfl
    · rw [if_neg hp, show s.size - pos = 0 by omega]
      rfl
/-- The text of a right fleet, without its slashes, is read as the fleet. -/
theorem read_text {W H : Nat} {ships fl : List Int} (hv : fleetV W H ships fl = true) {n : Nat} (hn : n ≤ 25) (hnum : ∀ x ∈ fl, ∃ m : Nat, x = (m : Int) ∧ m < 2 ^ n) (hl : fl.length ≤ 3) (s : ByteArray) (hs : s.data.toList = (List.range n).map (sgB fl)) : readAll s s.size 0 (List.replicate fl.length 0) = fl := by
  have hnum2 : ∀ x ∈ fl, ∃ m : Nat, x = (m : Int) ∧ m < 33554432 := fun x hx => by
    obtain ⟨m, e, hm⟩ := hnum x hx
    exact ⟨m, e, Nat.lt_of_lt_of_le hm (Nat.le_trans (Nat.pow_le_pow_right (by omega) hn) (by simp))⟩
  have hsz : s.size = n := by rw [Lib.size_eq, hs]; simp
  rw [readAll_ascii s (fun i hi => ?_) s.size 0 _ (by omega), Nat.sub_zero, hs, hsz, ← cutTo_zero, read_cut hv hnum2 hl hn n 0 (by omega), cutTo_all hnum]
  have e : s[i]'hi = s.data.toList[i]'(by rw [← Lib.size_eq]; exact hi) := by simp [ByteArray.getElem_eq_getElem_data]
  rw [e]
  simp only [hs, List.getElem_map, sgB]
  rcases cellSg_cases fl ((List.range n)[i]'(by rw [List.length_range, ← hsz]; exact hi)) with h | h | h | h <;> rw [h] <;> decide
theorem decode_wide1 (s : ByteArray) (pos : Nat) (h : pos < s.size) : 1 ≤ (Utf8.decode s pos).2 := by
  by_cases ha : (s[pos]'h).toNat < 128
  · rw [decode_ascii s pos h ha]; exact Nat.le_refl _
  · exact (decode_high s pos h (by omega)).2
/-- More rounds than are needed change nothing. -/
theorem readAll_fuel (s : ByteArray) : ∀ (f1 f2 pos : Nat) (out : List Int), s.size - pos ≤ f1 → s.size - pos ≤ f2 → readAll s f1 pos out = readAll s f2 pos out
  | 0, 0, _, _, _, _ => rfl
  | 0, f2 + 1, pos, out, h1, _ => by
    conv => rhs; unfold readAll
    rw [if_neg (by omega)]
    rfl
  | f1 + 1, 0, pos, out, _, h2 => by
    conv => lhs; unfold readAll
    rw [if_neg (by omega)]
    rfl
  | f1 + 1, f2 + 1, pos, out, h1, h2 => by
    unfold readAll
    by_cases hp : pos < s.size
    · have := decode_wide1 s pos hp
      rw [if_pos hp, if_pos hp, readAll_fuel s f1 f2 _ _ (by omega) (by omega)]
    · rw [if_neg hp, if_neg hp]
theorem readAll_next (s : ByteArray) {pos : Nat} (out : List Int) (hp : pos < s.size) : readAll s (s.size - pos) pos out = readAll s (s.size - (pos + (Utf8.decode s pos).2)) (pos + (Utf8.decode s pos).2) (readStep s.data.toList pos out) := by
  have := decode_wide1 s pos hp
  obtain ⟨d, hd⟩ : ∃ d, s.size - pos = d + 1 := ⟨s.size - pos - 1, by omega⟩
  rw [hd]
  conv => lhs; unfold readAll
  rw [if_pos hp]
  exact readAll_fuel s _ _ _ _ (by omega) (Nat.le_refl _)
theorem readAll_end (s : ByteArray) {pos : Nat} (out : List Int) (hp : ¬ pos < s.size) : readAll s (s.size - pos) pos out = out := by
  rw [show s.size - pos = 0 by omega]; rfl
theorem wrap_byte (b : UInt8) : wrap64 ((b.toNat : Int) - 97) = (b.toNat : Int) - 97 := by
  have := b.toNat_lt
  unfold wrap64
  omega
theorem wrap_byte0 (b : UInt8) : wrap64 (b.toNat : Int) = (b.toNat : Int) := by
  have := b.toNat_lt
  unfold wrap64
  omega
theorem readStep_at (sg : ByteArray) {pos n : Nat} (hp : pos < sg.size) {out : List Int} (hol : out.length = n) : readStep sg.data.toList pos out = if 0 ≤ wrap64 (wrap64 ((sg[pos]'hp).toNat : Int) - 97) ∧ wrap64 (wrap64 ((sg[pos]'hp).toNat : Int) - 97) < (n : Int) ∧ (pos : Int) < 25 then out.set (wrap64 (wrap64 ((sg[pos]'hp).toNat : Int) - 97)).toNat (Go.bits .or .i64 (rd out (wrap64 (wrap64 ((sg[pos]'hp).toNat : Int) - 97))) (shl .i64 1 (pos : Int))) else out := by
  have e1 : (sg.data.toList.getD pos 0) = sg[pos]'hp := by
    rw [List.getD_eq_getElem?_getD, List.getElem?_eq_getElem (by rw [← Lib.size_eq]; exact hp)]
    simp [ByteArray.getElem_eq_getElem_data]
  unfold readStep
  rw [e1, wrap_byte0, wrap_byte, hol]
  by_cases c : 0 ≤ ((sg[pos]'hp).toNat : Int) - 97 ∧ ((sg[pos]'hp).toNat : Int) - 97 < (n : Int) ∧ pos < 25
  · rw [if_pos c, if_pos ⟨c.1, c.2.1, by have := c.2.2; omega⟩]
  · rw [if_neg c, if_neg (fun h => c ⟨h.1, h.2.1, by have := h.2.2; omega⟩)]
/-! ### impl_ParseFleet: function 7 -/
-- EXTERNAL: by hand
-- impl_IsSea impl_FleetText strings_ReplaceAll
-- readAll iterSet
def impl_ParseFleet.f (k : Nat) (a0_0 a0_1 : Int) (l0_2 : List Int) (a1 : ByteArray) : Option (List Int × Int) := (impl_IsSea.f k a0_0 a0_1 l0_2).bind fun b => if b = true then (if 1 ≤ l0_2.length ∧ l0_2.length ≤ 3 then (strings_ReplaceAll.f a1 ⟨#[47]⟩ ⟨#[]⟩).bind fun sg => if sg.size ≤ 1048576 then (impl_FleetText.f k a0_0 a0_1 l0_2 (readAll sg sg.size 0 (List.replicate l0_2.length 0))).bind fun t => if t.2 = 0 ∧ (t.1.toList == a1.toList) = true then some (readAll sg sg.size 0 (List.replicate l0_2.length 0), 0) else some ([], 6) else none else none) else some ([], 1)
theorem shl_pow_ (pos : Nat) : shl .i64 1 (pos : Int) = wrap64 (2 ^ min pos 64) := by
  show IntKind.i64.wrap (1 * 2 ^ min pos 64) = _
  rw [Int.one_mul]
  exact i64_w _
theorem R_drewP_ {α : Type} {d : Kd α} {e : Nat} {w : World} {base : Nat} {ok : Nat → Prop} {v : Value} {xs : List α} (h : d.R e w base ok v xs) : d.R e w.drew base ok v xs := Kd.R_step h (fun k _ _ => rfl)
theorem below_drewP_ {B : Nat} {w W : World} (h : Below B w W) : Below B w W.drew := ⟨h.os, h.tape, h.output, h.size, h.block⟩
theorem row_blkP_ {W : World} {base go n co : Nat} {ok : Nat → Prop} {xs : List Int} (ho : Kd.R (Kd.int .i64) 2 W base ok (.slice (some ⟨go, 0, none⟩) n co) xs) (h : 0 < xs.length) : ∃ cells, W.heap[go]? = some (.cells cells 2 (0, 0)) := by
  obtain ⟨g, cap, e2, _, _, cells, hc⟩ := Kd.R_form ho h
  injection e2 with e3
  injection e3 with e3
  injection e3 with e3
  subst e3
  exact ⟨cells, hc⟩
set_option maxHeartbeats 8000000 in
set_option maxRecDepth 100000 in
theorem impl_ParseFleet.calls (k : Nat) (a0_0 a0_1 : Int) (A0_2 : Option Addr) (c0_2 : Nat) (l0_2 : List Int) (a1 : ByteArray) (r1 : List Int) (r2 : Int) (w : World) (hr0_2 : Kd.C (Kd.int .i64) w A0_2 l0_2.length l0_2) (hc0_2 : l0_2.length ≤ c0_2) (h : impl_ParseFleet.f k a0_0 a0_1 l0_2 a1 = some (r1, r2)) :
    Calls Tryd.prog 7 #[.agg #[.int .i64 a0_0, .int .i64 a0_1, .slice A0_2 l0_2.length c0_2], .string a1] w fun e w' => ∃ v0_ : Value, e = .returned (.tuple #[v0_, .int .i64 r2]) ∧ Kd.R (Kd.int .i64) 2 w' w.heap.size (fun _ => True) v0_ r1 ∧ Below w.heap.size w w' := by
  unfold impl_ParseFleet.f at h
  obtain ⟨b, hib, h⟩ := Option.bind_eq_some_iff.1 h
  have HIS := Aside0.mk hib
  have HB := Aside0.mk (Below.refl w.heap.size w)
  have HR := Aside0.mk hr0_2
  have HR0 := Aside0.mk hr0_2
  have HC := Aside0.mk hc0_2
  have hu28 := Tryd.underlying28
  have hu9 := Tryd.underlying9
  clear hr0_2 hc0_2 hib
  cases b with
  | false =>
    rw [if_neg (by simp)] at h
    simp only [Option.some.injEq, Prod.mk.injEq] at h
    obtain ⟨rfl, rfl⟩ := h
    go_enter Tryd.func7, Tryd.ntmps7
    go_wp2_with (first | ((with_reducible refine gate_dst (N := 2) rfl ?_); refine box_event ?hg (N := 2) ?hd (cs := #[.int .i64 a0_0, .int .i64 a0_1, .slice A0_2 l0_2.length c0_2]) (t := 28) ?hr ?_; (case hd => rfl); (case hg => rfl); (case hr => first | (go_simp; done) | (go_simp; rfl)); intro g2 hg2 w1 hbox hb; have HX := Aside0.mk hbox; have HG := Aside0.mk (show w.heap.size ≤ g2 by have := below_size HB.out; omega); have n2_ := Aside0.mk (below_step HB.out hb); have n3_ := Aside0.mk (Kd.C_below HR.out hb); clear hbox hb hg2 HB HR; have HB := n2_; have HR := n3_; clear n2_ n3_; have hs0 := (blk_cell HX.out 0).trans rfl; have hs1 := (blk_cell HX.out 1).trans rfl; have hs2 := (blk_cell HX.out 2).trans rfl) | (go_at_call 17; refine (impl_IsSea.calls k a0_0 a0_1 A0_2 c0_2 l0_2 _ _ HR.out HC.out HIS.out).mono ?_; rintro e w3 ⟨rfl, hb⟩; (try clear hs0); (try clear hs1); (try clear hs2); have n1_ := Aside0.mk (blk_below HX.out hb); have n2_ := Aside0.mk (below_step HB.out hb); have n3_ := Aside0.mk (Kd.C_below HR.out hb); clear hb HX HB HR; have HX := n1_; have HB := n2_; have HR := n3_; clear n1_ n2_ n3_; have hs0 := (blk_cell HX.out 0).trans rfl; have hs1 := (blk_cell HX.out 1).trans rfl; have hs2 := (blk_cell HX.out 2).trans rfl))
    go_ret2
    exact ⟨_, rfl, Kd.R_nil _ _ _ _ _, HB.out⟩
  | true =>
    rw [if_pos rfl] at h
    split at h
    case isFalse => cases h
    rename_i hls
    obtain ⟨sg, hsg, h⟩ := Option.bind_eq_some_iff.1 h
    split at h
    case isFalse => cases h
    rename_i hsz
    obtain ⟨⟨tx, cd⟩, htx, h⟩ := Option.bind_eq_some_iff.1 h
    have HS := Aside0.mk hls
    have HRA := Aside0.mk hsg
    have HSZ := Aside0.mk hsz
    have HTX := Aside0.mk htx
    have HN0 := Aside0.mk (show (0 : Int) ≤ (l0_2.length : Int) by omega)
    have HN8 := Aside0.mk (show ((l0_2.length : Int)).toNat * 8 ≤ 281474976710656 by rw [Int.toNat_natCast]; omega)
    have HH := Aside0.mk h
    clear hls hsg hsz htx h
    go_enter Tryd.func7, Tryd.ntmps7
    go_wp2_with (first | ((with_reducible refine gate_dst (N := 2) rfl ?_); refine box_event ?hg (N := 2) ?hd (cs := #[.int .i64 a0_0, .int .i64 a0_1, .slice A0_2 l0_2.length c0_2]) (t := 28) ?hr ?_; (case hd => rfl); (case hg => rfl); (case hr => first | (go_simp; done) | (go_simp; rfl)); intro g2 hg2 w1 hbox hb; have HX := Aside0.mk hbox; have HG := Aside0.mk (show w.heap.size ≤ g2 by have := below_size HB.out; omega); have n2_ := Aside0.mk (below_step HB.out hb); have n3_ := Aside0.mk (Kd.C_below HR.out hb); clear hbox hb hg2 HB HR; have HB := n2_; have HR := n3_; clear n2_ n3_; have hs0 := (blk_cell HX.out 0).trans rfl; have hs1 := (blk_cell HX.out 1).trans rfl; have hs2 := (blk_cell HX.out 2).trans rfl) | (go_at_call 17; refine (impl_IsSea.calls k a0_0 a0_1 A0_2 c0_2 l0_2 _ _ HR.out HC.out HIS.out).mono ?_; rintro e w3 ⟨rfl, hb⟩; (try clear hs0); (try clear hs1); (try clear hs2); have n1_ := Aside0.mk (blk_below HX.out hb); have n2_ := Aside0.mk (below_step HB.out hb); have n3_ := Aside0.mk (Kd.C_below HR.out hb); clear hb HX HB HR; have HX := n1_; have HB := n2_; have HR := n3_; clear n1_ n2_ n3_; have hs0 := (blk_cell HX.out 0).trans rfl; have hs1 := (blk_cell HX.out 1).trans rfl; have hs2 := (blk_cell HX.out 2).trans rfl) | ((with_reducible refine gate_dst (N := 18) rfl ?_); refine Kd.R_make (Kd.int .i64) _ 2 rfl (N := 18) rfl 22 _ _ rfl (l0_2.length : Int) rfl rfl Tryd.underlying22 (.int .i64 0) 8 info2 rfl (by decide) (by omega) 0 (ok := fun _ => True) (okp := fun _ => True) rfl (fun _ hk => hk) trivial HN0.out HN8.out (Below.refl _ _) (Nat.le_refl _) ?_; intro v18 w4 ho hb hg_ hnew_; clear hg_ hnew_; rw [Int.toNat_natCast] at ho; obtain ⟨go, co, e18, hgo_, _, _⟩ := Kd.R_form ho (by rw [List.length_replicate]; have := HS.out; omega); rw [List.length_replicate] at e18; subst e18; have HZO := Aside0.mk (show w.heap.size ≤ go by have := below_size HB.out; omega); have HO := Aside0.mk (Kd.R_mono (ok' := fun k => k = go) (Kd.R_tight rfl (Kd.R_lower ho (below_size HB.out))) (fun k hk => by injection hk)); clear ho hgo_; (try clear hs0); (try clear hs1); (try clear hs2); have n1_ := Aside0.mk (blk_below HX.out hb); have n2_ := Aside0.mk (below_step HB.out hb); have n3_ := Aside0.mk (Kd.C_below HR.out hb); clear hb HX HB HR; have HX := n1_; have HB := n2_; have HR := n3_; clear n1_ n2_ n3_; have hs0 := (blk_cell HX.out 0).trans rfl; have hs1 := (blk_cell HX.out 1).trans rfl; have hs2 := (blk_cell HX.out 2).trans rfl) | (go_at_call 18; refine (strings_ReplaceAll.calls a1 _ _ sg _ HRA.out).mono ?_; rintro e w5 ⟨rfl, hb⟩; have n4_ := Aside0.mk (Kd.R_below HO.out hb); clear HO; have HO := n4_; clear n4_; (try clear hs0); (try clear hs1); (try clear hs2); have n1_ := Aside0.mk (blk_below HX.out hb); have n2_ := Aside0.mk (below_step HB.out hb); have n3_ := Aside0.mk (Kd.C_below HR.out hb); clear hb HX HB HR; have HX := n1_; have HB := n2_; have HR := n3_; clear n1_ n2_ n3_; have hs0 := (blk_cell HX.out 0).trans rfl; have hs1 := (blk_cell HX.out 1).trans rfl; have hs2 := (blk_cell HX.out 2).trans rfl))
    clear hs0 hs1 hs2
    have hgo : go < w5.heap.size := by
      obtain ⟨g_, cap_, e_, _, _, cells_, hc_⟩ := Kd.R_form HO.out (by rw [List.length_replicate]; have := HS.out; omega)
      injection e_ with e_
      injection e_ with e_
      injection e_ with e_
      subst e_
      exact blk_lt hc_
    have hg2 : g2 < w5.heap.size := blk_lt HX.out
    have hbi : Below w5.heap.size w5 (w5.iter sg 0) := (Below.refl _ _).alloc (Nat.le_refl _) _
    have HI := Aside0.mk (World.iter_heap w5 sg 0)
    have HGI := Aside0.mk (show w.heap.size ≤ w5.heap.size ∧ go ≠ w5.heap.size ∧ g2 ≠ w5.heap.size from ⟨by have := below_size HB.out; omega, by omega, by omega⟩)
    have n1_ := Aside0.mk (blk_below HX.out hbi)
    have n2_ := Aside0.mk (below_step HB.out hbi)
    have n4_ := Aside0.mk (Kd.R_below HO.out hbi)
    clear HX HB HO HR hbi hgo hg2
    generalize w5.heap.size = gi at HI HGI ⊢
    go_loopg [8, 9] sg.size (fun gg s8 s9 wr => ∃ (pos : Nat) (out : List Int), sg.size - pos ≤ gg ∧ out.length = l0_2.length ∧ Aside0 (readAll sg (sg.size - pos) pos out = readAll sg sg.size 0 (List.replicate l0_2.length 0)) ∧ Aside0 (wr.heap[gi]? = some (.stringIter sg pos)) ∧ Aside0 (Kd.R (Kd.int .i64) 2 wr w.heap.size (fun k => k = go) (.slice (some ⟨go, 0, none⟩) l0_2.length co) out) ∧ Aside0 (wr.heap[g2]? = some (.cells #[.int .i64 a0_0, .int .i64 a0_1, .slice A0_2 l0_2.length c0_2] 28 (0, 0))) ∧ Aside0 (Below w.heap.size w wr))
    case atStart => exact ⟨0, List.replicate l0_2.length 0, by omega, by simp, ⟨by rw [Nat.sub_zero]⟩, HI, n4_, n1_, n2_⟩
    case round =>
      clear HI n1_ n2_ n4_
      obtain ⟨pos, out, hgg, hol, HRd, HI, HO, HX, HB⟩ := hrel
      by_cases hp : pos < sg.size
      · have hnx := fun ty => next_some (P := Tryd.prog) HI.out hp ty
        have hgil : gi < wr.heap.size := blk_lt HI.out
        have HN := Aside0.mk (readAll_next sg out hp)
        have hwd := decode_wide1 sg pos hp
        have hrs := readStep_at sg hp hol
        have HIn := Aside0.mk (iter_get sg (pos + (Utf8.decode sg pos).2) hgil)
        have HOn := Aside0.mk (R_iter HO.out (g := gi) (fun k hk => by rw [hk]; exact HGI.out.2.1) sg (pos + (Utf8.decode sg pos).2))
        have HXn := Aside0.mk ((iter_far wr sg (pos + (Utf8.decode sg pos).2) HGI.out.2.2).trans HX.out)
        have HBn := Aside0.mk (below_iter HB.out HGI.out.1 sg (pos + (Utf8.decode sg pos).2))
        have hm : sg.size - (pos + (Utf8.decode sg pos).2) < gk := by omega
        clear hgil hwd
        rw [hrs] at HN
        clear hrs
        generalize hkk : wrap64 (wrap64 ((sg[pos]'hp).toNat : Int) - 97) = kk at HN
        by_cases h1 : 0 ≤ kk
        · by_cases h2 : kk < (l0_2.length : Int)
          · by_cases h3 : (pos : Int) < 25
            · rw [if_pos ⟨h1, h2, h3⟩] at HN
              have q1 := decide_eq_true h1
              have q2 := decide_eq_true h2
              have q3 := decide_eq_true h3
              obtain ⟨c, rfl⟩ : ∃ c : Nat, kk = (c : Int) := ⟨kk.toNat, by omega⟩
              have hcn : c < l0_2.length := by omega
              obtain ⟨ado, eo, hxo⟩ := Kd.at_int (Kd.R_reads' HOn.out).2.2 (c : Int) h1 (by rw [hol]; exact h2)
              injection eo with eo
              subst eo
              rw [Int.toNat_natCast, add_at, Nat.zero_add] at hxo
              obtain ⟨cells_, hrb⟩ := row_blkP_ HOn.out (by rw [hol]; omega)
              have hfR := blk_frozen hrb c
              have HG2 := Aside0.mk (blk_ne HXn.out hrb (by decide))
              have hsh : shl .i64 1 (pos : Int) = wrap64 (2 ^ min pos 64) := shl_pow_ pos
              have HOL := Aside0.mk hol
              rw [Int.toNat_natCast, hsh] at HN
              clear hsh
              have q4 := decide_eq_true hcn
              have q5 := eq_true h1
              have q6 := eq_true h2
              have q7 := eq_true hcn
              have q8 := eq_false (show ¬ (pos : Int) < 0 by omega)
              have q9 := decide_eq_false (show ¬ (pos : Int) < 0 by omega)
              have q10 := eq_true (show (0 : Int) ≤ (pos : Int) by omega)
              generalize Utf8.decode sg pos = dc at hnx HN HIn HOn HXn HBn hm hrb hxo hfR ⊢
              have HNR := Aside0.mk (HN.out.symm.trans HRd.out)
              have HM := Aside0.mk hm
              have HCN := Aside0.mk hcn
              clear HN HRd hm hrb hol h1 h2 h3 hgg HI HO HX HB hcn
              go_wp2_with fail
              generalize iterSet wr gi sg (pos + dc.2) = wi at HIn HOn HXn HBn hxo hfR ⊢
              clear hnx
              go_region
              go_wp2_with fail
              go_roundg (sg.size - (pos + dc.2))
              case measure => exact HM.out
              case rel => exact ⟨_, out.set c (Go.bits .or .i64 (rd out (c : Int)) (wrap64 (2 ^ min pos 64))), Nat.le_refl _, by rw [List.length_set]; exact HOL.out, HNR, ⟨(Below.heap_setCell _ ⟨go, c, none⟩ _ gi (fun e => HGI.out.2.1 e.symm)).trans HIn.out⟩, ⟨by have vO_ := Kd.R_putn HOn.out (c : Int) (Go.bits .or .i64 (rd out (c : Int)) (wrap64 (2 ^ min pos 64))); rw [Int.toNat_natCast] at vO_; exact R_drewP_ vO_⟩, ⟨blk_far HXn.out (p := ⟨go, c, none⟩) HG2.out _⟩, ⟨below_drewP_ (below_set HBn.out HZO.out)⟩⟩
            · rw [if_neg (fun h => h3 h.2.2)] at HN
              have q1 := decide_eq_true h1
              have q2 := decide_eq_true h2
              have q3 := decide_eq_false h3
              go_wp2_with fail
              go_roundg (sg.size - (pos + (Utf8.decode sg pos).2))
              case measure => exact hm
              case rel => exact ⟨_, out, Nat.le_refl _, hol, ⟨by rw [← HN.out]; exact HRd.out⟩, HIn, HOn, HXn, HBn⟩
          · rw [if_neg (fun h => h2 h.2.1)] at HN
            have q1 := decide_eq_true h1
            have q2 := decide_eq_false h2
            go_wp2_with fail
            go_roundg (sg.size - (pos + (Utf8.decode sg pos).2))
            case measure => exact hm
            case rel => exact ⟨_, out, Nat.le_refl _, hol, ⟨by rw [← HN.out]; exact HRd.out⟩, HIn, HOn, HXn, HBn⟩
        · rw [if_neg (fun h => h1 h.1)] at HN
          have q1 := decide_eq_false h1
          go_wp2_with fail
          go_roundg (sg.size - (pos + (Utf8.decode sg pos).2))
          case measure => exact hm
          case rel => exact ⟨_, out, Nat.le_refl _, hol, ⟨by rw [← HN.out]; exact HRd.out⟩, HIn, HOn, HXn, HBn⟩
      · have hnx := fun ty => next_none (P := Tryd.prog) HI.out hp ty
        have hs0 := (blk_cell HX.out 0).trans rfl
        have hs1 := (blk_cell HX.out 1).trans rfl
        have hs2 := (blk_cell HX.out 2).trans rfl
        have HRw := Aside0.mk (Kd.C_below HR0.out HB.out)
        have hend := readAll_end sg out hp
        have hout := hend.symm.trans HRd.out
        have HF := HTX.out
        rw [← hout] at HF
        have HHn := HH.out
        rw [← hout] at HHn
        have HFX := Aside0.mk HF
        have HOL := Aside0.mk hol
        have HCO := Aside0.mk (show l0_2.length ≤ co from (Kd.R_reads' HO.out).2.1)
        have hFT := impl_FleetText.calls k a0_0 a0_1 A0_2 c0_2 l0_2 (some ⟨go, 0, none⟩) co out tx cd
        rw [hol] at hFT
        have hFT := Aside0.mk hFT
        by_cases hcd : cd = 0 ∧ (tx.toList == a1.toList) = true
        · rw [if_pos hcd] at HHn
          simp only [Option.some.injEq, Prod.mk.injEq] at HHn
          obtain ⟨rfl, rfl⟩ := HHn
          obtain ⟨rfl, hte⟩ := hcd
          clear hend hout HF hol HI hgg
          go_wp2_with (first | (go_at_call 19; refine (hFT.out _ HRw.out HC.out (by have h_ := (Kd.R_reads' HO.out).2.2; rwa [HOL.out] at h_) HCO.out HFX.out).mono ?_; rintro e w9 ⟨rfl, hb⟩; have n1_ := Aside0.mk (Kd.R_below HO.out hb); have n2_ := Aside0.mk (below_step HB.out hb); clear HO HB hb; have HO := n1_; have HB := n2_; clear n1_ n2_))
          go_ret2
          exact ⟨_, rfl, Kd.R_mono HO.out (fun _ _ => trivial), HB.out⟩
        · rw [if_neg hcd] at HHn
          simp only [Option.some.injEq, Prod.mk.injEq] at HHn
          obtain ⟨rfl, rfl⟩ := HHn
          clear hend hout HF hol HI hgg
          by_cases h0 : cd = 0
          · subst h0
            have hte : (tx.toList == a1.toList) = false := by
              cases hq : (tx.toList == a1.toList) with
              | false => rfl
              | true => exact absurd ⟨rfl, hq⟩ hcd
            go_wp2_with (first | (go_at_call 19; refine (hFT.out _ HRw.out HC.out (by have h_ := (Kd.R_reads' HO.out).2.2; rwa [HOL.out] at h_) HCO.out HFX.out).mono ?_; rintro e w9 ⟨rfl, hb⟩; have n1_ := Aside0.mk (Kd.R_below HO.out hb); have n2_ := Aside0.mk (below_step HB.out hb); clear HO HB hb; have HO := n1_; have HB := n2_; clear n1_ n2_))
            go_ret2
            exact ⟨_, rfl, Kd.R_nil _ _ _ _ _, HB.out⟩
          · have hc0 := beq_eq_false_iff_ne.2 h0
            go_wp2_with (first | (go_at_call 19; refine (hFT.out _ HRw.out HC.out (by have h_ := (Kd.R_reads' HO.out).2.2; rwa [HOL.out] at h_) HCO.out HFX.out).mono ?_; rintro e w9 ⟨rfl, hb⟩; have n1_ := Aside0.mk (Kd.R_below HO.out hb); have n2_ := Aside0.mk (below_step HB.out hb); clear HO HB hb; have HO := n1_; have HB := n2_; clear n1_ n2_))
            go_ret2
            exact ⟨_, rfl, Kd.R_nil _ _ _ _ _, HB.out⟩

end Go.Proofs.YthmfpdkemkjpkaaDoor.F
