-- written by the session's program xp.py over the kit's print program, and by hand; texts joined by pack.py
import Derived.Test.YtcjeccohlmmfoaaDoorKFnExactStateWinner3
namespace Go.Proofs.YtcjeccohlmmfoaaDoor.F
open Go.RowKit Go.Proofs.YtcjeccohlmmfoaaDoorW.PrintWords Go.Proofs.YtcjeccohlmmfoaaDoorW.PrintLast Go.Proofs.YtcjeccohlmmfoaaDoorW.PrintMore
attribute [local go_sem] max2_int min2_int max_two min_two max_three min_three max_four min_four   -- for this text's walks alone
set_option linter.unusedVariables false
set_option linter.unusedSimpArgs false

/-! ### impl_turn_after: function 48 -/
def impl_turn_after.f (a0_0 : ByteArray) (a0_1 : Bool) (a1 : Int) : Option (ByteArray × Bool) := if a0_1 = true then (if 0 ≤ a1 then (if a1 ≤ (a0_0.size : Int) then (if (a0_0.extract 0 (a1 : Int).toNat).size + 1 ≤ 9223372036854775807 then (if 0 ≤ (wrap64 (a1 + 1)) then (if (wrap64 (a1 + 1)) ≤ (a0_0.size : Int) then (if ((a0_0.extract 0 (a1 : Int).toNat) ++ (⟨#[115]⟩ : ByteArray)).size + (a0_0.extract ((wrap64 (a1 + 1)) : Int).toNat a0_0.size).size ≤ 9223372036854775807 then (some (((a0_0.extract 0 (a1 : Int).toNat) ++ (⟨#[115]⟩ : ByteArray)) ++ (a0_0.extract ((wrap64 (a1 + 1)) : Int).toNat a0_0.size), !a0_1)) else (none)) else (none)) else (none)) else (none)) else (none)) else (none)) else (if 0 ≤ a1 then (if a1 ≤ (a0_0.size : Int) then (if (a0_0.extract 0 (a1 : Int).toNat).size + 1 ≤ 9223372036854775807 then (if 0 ≤ (wrap64 (a1 + 1)) then (if (wrap64 (a1 + 1)) ≤ (a0_0.size : Int) then (if ((a0_0.extract 0 (a1 : Int).toNat) ++ (⟨#[99]⟩ : ByteArray)).size + (a0_0.extract ((wrap64 (a1 + 1)) : Int).toNat a0_0.size).size ≤ 9223372036854775807 then (some (((a0_0.extract 0 (a1 : Int).toNat) ++ (⟨#[99]⟩ : ByteArray)) ++ (a0_0.extract ((wrap64 (a1 + 1)) : Int).toNat a0_0.size), !a0_1)) else (none)) else (none)) else (none)) else (none)) else (none)) else (none))
def impl_turn_after.T4 : Bool × List (List Nat × List Nat) := (true, [([], []), ([0], [0]), ([], []), ([1, 2], [1, 2]), ([], []), ([3, 4], [3, 4]), ([], []), ([6], [6]), ([], []), ([8], [8]), ([7, 9], [7, 9]), ([5, 10], [5, 10]), ([], []), ([12], [12]), ([13], [13]), ([11, 14], [11, 14]), ([15, 0, 1, 2, 3, 4, 5, 6, 7, 8, 9, 10, 11, 12, 13, 14, 15], [15])])
def impl_turn_after.B4 : List Nat := [0, 1, 0, 7, 0, 31, 0, 64, 0, 256, 960, 2047, 0, 4096, 12288, 32767, 65535]
theorem impl_turn_after.tab4 : rtab .any (opsOf Tryd.f48 4) = impl_turn_after.T4 := by kernel_rfl
theorem impl_turn_after.bits4 : waitsOk impl_turn_after.T4.2 impl_turn_after.B4 = true := by kernel_rfl
set_option maxHeartbeats 8000000 in
set_option maxRecDepth 100000 in
theorem impl_turn_after.calls (a0_0 : ByteArray) (a0_1 : Bool) (a1 : Int) (r1 : ByteArray) (r2 : Bool) (w : World) (h : impl_turn_after.f a0_0 a0_1 a1 = some (r1, r2)) :
  Calls Tryd.prog 48 #[.agg #[.string a0_0, .bool a0_1], .int .i64 a1] w fun e w' => e = .returned (.agg #[.string r1, .bool r2]) ∧ Below w.heap.size w w' := by
 have hu64 := Tryd.underlying64
 have HB := Aside0.mk (Below.refl w.heap.size w)
 have H : (if a0_1 = true then (if 0 ≤ a1 then (if a1 ≤ (a0_0.size : Int) then (if (a0_0.extract 0 (a1 : Int).toNat).size + 1 ≤ 9223372036854775807 then (if 0 ≤ (wrap64 (a1 + 1)) then (if (wrap64 (a1 + 1)) ≤ (a0_0.size : Int) then (if ((a0_0.extract 0 (a1 : Int).toNat) ++ (⟨#[115]⟩ : ByteArray)).size + (a0_0.extract ((wrap64 (a1 + 1)) : Int).toNat a0_0.size).size ≤ 9223372036854775807 then (some (((a0_0.extract 0 (a1 : Int).toNat) ++ (⟨#[115]⟩ : ByteArray)) ++ (a0_0.extract ((wrap64 (a1 + 1)) : Int).toNat a0_0.size), !a0_1)) else (none)) else (none)) else (none)) else (none)) else (none)) else (none)) else (if 0 ≤ a1 then (if a1 ≤ (a0_0.size : Int) then (if (a0_0.extract 0 (a1 : Int).toNat).size + 1 ≤ 9223372036854775807 then (if 0 ≤ (wrap64 (a1 + 1)) then (if (wrap64 (a1 + 1)) ≤ (a0_0.size : Int) then (if ((a0_0.extract 0 (a1 : Int).toNat) ++ (⟨#[99]⟩ : ByteArray)).size + (a0_0.extract ((wrap64 (a1 + 1)) : Int).toNat a0_0.size).size ≤ 9223372036854775807 then (some (((a0_0.extract 0 (a1 : Int).toNat) ++ (⟨#[99]⟩ : ByteArray)) ++ (a0_0.extract ((wrap64 (a1 + 1)) : Int).toNat a0_0.size), !a0_1)) else (none)) else (none)) else (none)) else (none)) else (none)) else (none))) = some (r1, r2) := h
 clear h
 by_cases c3 : a0_1 = true
 ·subst c3
  have H1 : (if 0 ≤ a1 then (if a1 ≤ (a0_0.size : Int) then (if (a0_0.extract 0 (a1 : Int).toNat).size + 1 ≤ 9223372036854775807 then (if 0 ≤ (wrap64 (a1 + 1)) then (if (wrap64 (a1 + 1)) ≤ (a0_0.size : Int) then (if ((a0_0.extract 0 (a1 : Int).toNat) ++ (⟨#[115]⟩ : ByteArray)).size + (a0_0.extract ((wrap64 (a1 + 1)) : Int).toNat a0_0.size).size ≤ 9223372036854775807 then (some (((a0_0.extract 0 (a1 : Int).toNat) ++ (⟨#[115]⟩ : ByteArray)) ++ (a0_0.extract ((wrap64 (a1 + 1)) : Int).toNat a0_0.size), !true)) else (none)) else (none)) else (none)) else (none)) else (none)) else (none)) = some (r1, r2) := by rw [if_pos rfl] at H; exact H
  clear H
  have H := H1
  clear H1
  by_cases c4 : 0 ≤ a1
  ·rw [if_pos c4] at H
   have c4b0 := eq_true c4
   have c4b1 : decide (0 ≤ a1) = true := decide_eq_true c4
   clear c4
   by_cases c5 : a1 ≤ (a0_0.size : Int)
   ·rw [if_pos c5] at H
    have c5b0 := eq_true c5
    have c5b1 : decide (a1 ≤ (a0_0.size : Int)) = true := decide_eq_true c5
    clear c5
    by_cases c6 : (a0_0.extract 0 (a1 : Int).toNat).size + 1 ≤ 9223372036854775807
    ·rw [if_pos c6] at H
     have c6b0 := eq_true c6
     have c6b1 : decide ((a0_0.extract 0 (a1 : Int).toNat).size + 1 ≤ 9223372036854775807) = true := decide_eq_true c6
     try have c6b2 : (9223372036854775807 < (a0_0.extract 0 (a1 : Int).toNat).size + 1) = False := eq_false (Nat.not_lt.2 c6)
     have zc0 : a1.toNat + 1 ≤ 9223372036854775807 := (by have h_ := c6; rw [ByteArray.size_extract] at h_; have g_ : a1 ≤ (a0_0.size : Int) := of_decide_eq_true ‹decide (a1 ≤ (a0_0.size : Int)) = true›; omega)
     have zcc6 : (9223372036854775807 < a1.toNat + 1) = False := eq_false (by omega)
     clear zc0
     obtain ⟨ji7, hji7⟩ : ∃ j_ : Int, (wrap64 (a1 + 1)) = j_ := ⟨_, rfl⟩
     replace H : (if 0 ≤ (ji7) then (if (ji7) ≤ (a0_0.size : Int) then (if ((a0_0.extract 0 (a1 : Int).toNat) ++ (⟨#[115]⟩ : ByteArray)).size + (a0_0.extract ((ji7) : Int).toNat a0_0.size).size ≤ 9223372036854775807 then (some (((a0_0.extract 0 (a1 : Int).toNat) ++ (⟨#[115]⟩ : ByteArray)) ++ (a0_0.extract ((ji7) : Int).toNat a0_0.size), !true)) else (none)) else (none)) else (none)) = some (r1, r2) := by first | (rw [hji7] at H; exact H) | (simp only [hji7] at H ⊢; exact H)
     have hji7w : (IntKind.i64.wrap (a1 + 1)) = ji7 := (i64_w _).trans hji7
     by_cases c8 : 0 ≤ (ji7)
     ·rw [if_pos c8] at H
      have c8b0 := eq_true c8
      have c8b1 : decide (0 ≤ (ji7)) = true := decide_eq_true c8
      clear c8
      by_cases c9 : (ji7) ≤ (a0_0.size : Int)
      ·rw [if_pos c9] at H
       have c9b0 := eq_true c9
       have c9b1 : decide ((ji7) ≤ (a0_0.size : Int)) = true := decide_eq_true c9
       clear c9
       by_cases c10 : ((a0_0.extract 0 (a1 : Int).toNat) ++ (⟨#[115]⟩ : ByteArray)).size + (a0_0.extract ((ji7) : Int).toNat a0_0.size).size ≤ 9223372036854775807
       ·rw [if_pos c10] at H
        have c10b0 := eq_true c10
        have c10b1 : decide (((a0_0.extract 0 (a1 : Int).toNat) ++ (⟨#[115]⟩ : ByteArray)).size + (a0_0.extract ((ji7) : Int).toNat a0_0.size).size ≤ 9223372036854775807) = true := decide_eq_true c10
        try have c10b2 : (9223372036854775807 < ((a0_0.extract 0 (a1 : Int).toNat) ++ (⟨#[115]⟩ : ByteArray)).size + (a0_0.extract ((ji7) : Int).toNat a0_0.size).size) = False := eq_false (Nat.not_lt.2 c10)
        have zc0 : a1.toNat + 1 + (a0_0.size - ji7.toNat) ≤ 9223372036854775807 := (by have h_ := c10; have e_ : (⟨#[115]⟩ : ByteArray).size = 1 := rfl; rw [ByteArray.size_append, ByteArray.size_extract, ByteArray.size_extract, e_] at h_; have g_ : a1 ≤ (a0_0.size : Int) := of_decide_eq_true ‹decide (a1 ≤ (a0_0.size : Int)) = true›; omega)
        have zcc10 : (9223372036854775807 < a1.toNat + 1 + (a0_0.size - ji7.toNat)) = False := eq_false (by omega)
        clear zc0
        simp only [Option.some.injEq, Prod.mk.injEq] at H
        obtain ⟨rfl, rfl⟩ := H
        go_enter Tryd.func48, Tryd.ntmps48
        try go_wp2_with (first | ((with_reducible refine gate_dst (N := 2) rfl ?_); refine box_event ?hg (N := 2) ?hd (cs := #[.string a0_0, .bool true]) (t := 64) ?hr ?_; (case hd => rfl); (case hg => rfl); (case hr => first | (go_simp; done) | (go_simp; rfl)); intro gb245 hg w11 hbox hb; have n0_ := Aside0.mk (below_step (by repeat (first | (with_reducible first | exact HB.out | apply below_alloc | apply pw_below_drewN | apply below_drew1) | exact HB.out)) hb); have n1_ := Aside0.mk (hbox); have n2_ := Aside0.mk ((by rw [hg]; exact (below_size (by repeat (first | (with_reducible first | exact HB.out | apply below_alloc | apply pw_below_drewN | apply below_drew1) | exact HB.out))) : w.heap.size ≤ gb245)); have n3_ := Aside0.mk ((by rw [hg]; exact (below_size (by repeat (first | (with_reducible first | exact HB.out | apply below_alloc | apply pw_below_drewN | apply below_drew1) | exact HB.out))) : w.heap.size ≤ gb245)); clear HB; have HB := n0_; have BK245 := n1_; have GW245 := n2_; have GE245 := n3_; clear n0_ n1_ n2_ n3_; clear hb hbox hg) | ((with_reducible refine gate_dst (N := 4) rfl ?_); refine box_event ?hg (N := 4) ?hd (cs := #[.string (⟨#[]⟩ : ByteArray), .bool false]) (t := 64) ?hr ?_; (case hd => rfl); (case hg => rfl); (case hr => first | (go_simp; done) | (go_simp; rfl)); intro gb246 hg w12 hbox hb; have n0_ := Aside0.mk (blk_below (g := gb245) (o := .cells #[.string a0_0, .bool true] 64 (0, 0)) (by (with_reducible repeat (first | refine blk_drewN ?_ _ | refine blk_drew ?_ | refine blk_alloc ?_ _)); exact BK245.out) hb); have n1_ := Aside0.mk (below_step (by repeat (first | (with_reducible first | exact HB.out | apply below_alloc | apply pw_below_drewN | apply below_drew1 | refine below_set ?_ GE245.out) | exact HB.out)) hb); have n2_ := Aside0.mk (hbox); have n3_ := Aside0.mk ((by rw [hg]; exact (below_size (by repeat (first | (with_reducible first | exact HB.out | apply below_alloc | apply pw_below_drewN | apply below_drew1 | refine below_set ?_ GE245.out) | exact HB.out))) : w.heap.size ≤ gb246)); have n4_ := Aside0.mk ((by rw [hg]; exact (below_size (by repeat (first | (with_reducible first | exact HB.out | apply below_alloc | apply pw_below_drewN | apply below_drew1 | refine below_set ?_ GE245.out) | exact HB.out))) : w.heap.size ≤ gb246)); have n5_ := Aside0.mk ((by rw [hg]; exact Nat.ne_of_lt (blk_lt (g := gb245) (o := .cells #[.string a0_0, .bool true] 64 (0, 0)) (by (with_reducible repeat (first | refine blk_drewN ?_ _ | refine blk_drew ?_ | refine blk_alloc ?_ _)); exact BK245.out)) : gb245 ≠ gb246)); have n6_ := Aside0.mk ((by rw [hg]; exact Nat.ne_of_gt (blk_lt (g := gb245) (o := .cells #[.string a0_0, .bool true] 64 (0, 0)) (by (with_reducible repeat (first | refine blk_drewN ?_ _ | refine blk_drew ?_ | refine blk_alloc ?_ _)); exact BK245.out)) : gb246 ≠ gb245)); clear BK245; clear HB; have BK245 := n0_; have HB := n1_; have BK246 := n2_; have GW246 := n3_; have GE246 := n4_; have NB245_246 := n5_; have NB246_245 := n6_; clear n0_ n1_ n2_ n3_ n4_ n5_ n6_; clear hb hbox hg; have hnb13 := NB245_246.out; have hnc13 := NB246_245.out; have hcz14_0 : w12.cell? ⟨gb245, 0, none⟩ = some (.string a0_0) := (blk_cell BK245.out 0).trans rfl; have hcz14_1 : w12.cell? ⟨gb245, 1, none⟩ = some (.bool true) := (blk_cell BK245.out 1).trans rfl; have hfz14_0 := blk_frozen BK245.out 0; have hfz14_1 := blk_frozen BK245.out 1))
        have n0_ := Aside0.mk (blk_drew BK245.out)
        have n1_ := Aside0.mk (blk_drew BK246.out)
        have n2_ := Aside0.mk (below_drew1 HB.out)
        clear BK245
        clear BK246
        clear HB
        have BK245 := n0_
        have BK246 := n1_
        have HB := n2_
        clear n0_ n1_ n2_
        refine start_ (n := 17) (S := fun w' => w'.cell? ⟨gb245, 0, none⟩ = some (.string a0_0) ∧ w'.cell? ⟨gb245, 1, none⟩ = some (.bool true)) (ds := []) #[false, false, false, false, false, false, false, false, false, false, false, false, false, false, false, false, false] (by kernel_rfl) rfl rfl ⟨(blk_cell BK245.out 0).trans rfl, (blk_cell BK245.out 1).trans rfl⟩ (fun hHeld => ?_); refine with_tabW impl_turn_after.tab4 impl_turn_after.bits4 (fun HT_ HW_ => ?_)
        generalize w12.drew = w15 at BK245 BK246 HB hHeld ⊢
        refine pure_ (i := 0) (N := some 8) (v := ?_) (a' := ?_) #[true, false, false, false, false, false, false, false, false, false, false, false, false, false, false, false, false] rfl rfl (any_of HT_.out (by kernel_rfl)) (fun _ _ _ h => h) (Or.inl ⟨by rfl, ?_⟩) ?_ ?_
        rotate_left
        ·intro w'
         go_simp
         with_reducible rfl
        rotate_left
        ·simp only [Act.put, List.setIfInBounds_toArray, List.set_cons_zero, List.set_cons_succ, i64_w, i32_w]
         rfl
        refine pure_ (i := 2) (N := some 10) (v := ?_) (a' := ?_) #[true, false, true, false, false, false, false, false, false, false, false, false, false, false, false, false, false] rfl rfl (any_of HT_.out (by kernel_rfl)) (fun _ _ _ h => h) (Or.inl ⟨by rfl, ?_⟩) ?_ ?_
        rotate_left
        ·intro w'
         go_simp
         with_reducible rfl
        rotate_left
        ·simp only [Act.put, List.setIfInBounds_toArray, List.set_cons_zero, List.set_cons_succ, i64_w, i32_w]
         rfl
        refine pure_ (i := 4) (N := some 12) (v := ?_) (a' := ?_) #[true, false, true, false, true, false, false, false, false, false, false, false, false, false, false, false, false] rfl rfl (any_of HT_.out (by kernel_rfl)) (fun _ _ _ h => h) (Or.inl ⟨by rfl, ?_⟩) ?_ ?_
        rotate_left
        ·intro w'
         go_simp
         with_reducible rfl
        rotate_left
        ·simp only [Act.put, List.setIfInBounds_toArray, List.set_cons_zero, List.set_cons_succ, i64_w, i32_w]
         rfl
        refine pure_ (i := 6) (N := some 14) (v := ?_) (a' := ?_) #[true, false, true, false, true, false, true, false, false, false, false, false, false, false, false, false, false] rfl rfl (any_of HT_.out (by kernel_rfl)) (fun _ _ _ h => h) (Or.inl ⟨by rfl, ?_⟩) ?_ ?_
        rotate_left
        ·intro w'
         go_simp
         with_reducible rfl
        rotate_left
        ·simp only [Act.put, List.setIfInBounds_toArray, List.set_cons_zero, List.set_cons_succ, i64_w, i32_w]
         rfl
        refine pure_ (i := 8) (N := some 16) (v := ?_) (a' := ?_) #[true, false, true, false, true, false, true, false, true, false, false, false, false, false, false, false, false] rfl rfl (any_of HT_.out (by kernel_rfl)) (fun _ _ _ h => h) (Or.inl ⟨by rfl, ?_⟩) ?_ ?_
        rotate_left
        ·intro w'
         go_simp
         with_reducible rfl
        rotate_left
        ·simp only [Act.put, List.setIfInBounds_toArray, List.set_cons_zero, List.set_cons_succ, i64_w, i32_w]
         rfl
        refine pure_ (i := 9) (N := some 17) (v := ?_) (a' := ?_) #[true, false, true, false, true, false, true, false, true, true, false, false, false, false, false, false, false] rfl rfl (any_of HT_.out (by kernel_rfl)) (fun _ _ _ h => h) (Or.inl ⟨by rfl, ?_⟩) ?_ ?_
        rotate_left
        ·intro w'
         go_simp
         with_reducible rfl
        rotate_left
        ·simp only [Act.put, List.setIfInBounds_toArray, List.set_cons_zero, List.set_cons_succ, i64_w, i32_w]
         rfl
        refine pure_ (i := 12) (N := some 20) (v := ?_) (a' := ?_) #[true, false, true, false, true, false, true, false, true, true, false, false, true, false, false, false, false] rfl rfl (any_of HT_.out (by kernel_rfl)) (fun _ _ _ h => h) (Or.inl ⟨by rfl, ?_⟩) ?_ ?_
        rotate_left
        ·intro w'
         go_simp
         with_reducible rfl
        rotate_left
        ·simp only [Act.put, List.setIfInBounds_toArray, List.set_cons_zero, List.set_cons_succ, i64_w, i32_w]
         rfl
        refine take_ (i := 1) (N := some 9) (v := ?_) (a' := ?_) #[true, true, true, false, true, false, true, false, true, true, false, false, true, false, false, false, false] rfl rfl (take_ofW HT_.out HW_.out (by kernel_rfl)) (fun _ _ _ h => h) (Or.inl ⟨by rfl, ?_⟩) hHeld ?_ ?_
        rotate_left
        ·rintro w' ⟨s0, s1⟩
         go_simp
         with_reducible rfl
        rotate_left
        ·simp only [Act.put, List.setIfInBounds_toArray, List.set_cons_zero, List.set_cons_succ, i64_w, i32_w]
         rfl
        refine pure_ (i := 3) (N := some 11) (v := ?_) (a' := ?_) #[true, true, true, true, true, false, true, false, true, true, false, false, true, false, false, false, false] rfl rfl (any_of HT_.out (by kernel_rfl)) (fun _ _ _ h => h) (Or.inl ⟨by rfl, ?_⟩) ?_ ?_
        rotate_left
        ·intro w'
         go_simp
         with_reducible rfl
        rotate_left
        ·simp only [Act.put, List.setIfInBounds_toArray, List.set_cons_zero, List.set_cons_succ, i64_w, i32_w]
         rfl
        refine pure_ (i := 5) (N := some 13) (v := ?_) (a' := ?_) #[true, true, true, true, true, true, true, false, true, true, false, false, true, false, false, false, false] rfl rfl (any_of HT_.out (by kernel_rfl)) (fun _ _ _ h => h) (Or.inl ⟨by rfl, ?_⟩) ?_ ?_
        rotate_left
        ·intro w'
         go_simp
         with_reducible rfl
        rotate_left
        ·simp only [Act.put, List.setIfInBounds_toArray, List.set_cons_zero, List.set_cons_succ, i64_w, i32_w]
         rfl
        refine take_ (i := 7) (N := some 15) (v := ?_) (a' := ?_) #[true, true, true, true, true, true, true, true, true, true, false, false, true, false, false, false, false] rfl rfl (take_ofW HT_.out HW_.out (by kernel_rfl)) (fun _ _ _ h => h) (Or.inl ⟨by rfl, ?_⟩) hHeld ?_ ?_
        rotate_left
        ·rintro w' ⟨s0, s1⟩
         go_simp
         with_reducible rfl
        rotate_left
        ·simp only [Act.put, List.setIfInBounds_toArray, List.set_cons_zero, List.set_cons_succ, i64_w, i32_w]
         rfl
        refine pure_ (i := 10) (N := some 18) (v := ?_) (a' := ?_) #[true, true, true, true, true, true, true, true, true, true, true, false, true, false, false, false, false] rfl rfl (any_of HT_.out (by kernel_rfl)) (fun _ _ _ h => h) (Or.inl ⟨by rfl, ?_⟩) ?_ ?_
        rotate_left
        ·intro w'
         go_simp
         with_reducible rfl
        rotate_left
        ·simp only [Act.put, List.setIfInBounds_toArray, List.set_cons_zero, List.set_cons_succ, i64_w, i32_w]
         rfl
        refine pure_ (i := 11) (N := some 19) (v := ?_) (a' := ?_) #[true, true, true, true, true, true, true, true, true, true, true, true, true, false, false, false, false] rfl rfl (any_of HT_.out (by kernel_rfl)) (fun _ _ _ h => h) (Or.inl ⟨by rfl, ?_⟩) ?_ ?_
        rotate_left
        ·intro w'
         go_simp
         with_reducible rfl
        rotate_left
        ·simp only [Act.put, List.setIfInBounds_toArray, List.set_cons_zero, List.set_cons_succ, i64_w, i32_w]
         rfl
        refine take_ (i := 13) (N := some 21) (v := ?_) (a' := ?_) #[true, true, true, true, true, true, true, true, true, true, true, true, true, true, false, false, false] rfl rfl (take_ofW HT_.out HW_.out (by kernel_rfl)) (fun _ _ _ h => h) (Or.inl ⟨by rfl, ?_⟩) hHeld ?_ ?_
        rotate_left
        ·rintro w' ⟨s0, s1⟩
         go_simp
         with_reducible rfl
        rotate_left
        ·simp only [Act.put, List.setIfInBounds_toArray, List.set_cons_zero, List.set_cons_succ, i64_w, i32_w]
         rfl
        refine pure_ (i := 14) (N := some 22) (v := ?_) (a' := ?_) #[true, true, true, true, true, true, true, true, true, true, true, true, true, true, true, false, false] rfl rfl (any_of HT_.out (by kernel_rfl)) (fun _ _ _ h => h) (Or.inl ⟨by rfl, ?_⟩) ?_ ?_
        rotate_left
        ·intro w'
         go_simp
         with_reducible rfl
        rotate_left
        ·simp only [Act.put, List.setIfInBounds_toArray, List.set_cons_zero, List.set_cons_succ, i64_w, i32_w]
         rfl
        refine pure_ (i := 15) (N := some 23) (v := ?_) (a' := ?_) #[true, true, true, true, true, true, true, true, true, true, true, true, true, true, true, true, false] rfl rfl (any_of HT_.out (by kernel_rfl)) (fun _ _ _ h => h) (Or.inl ⟨by rfl, ?_⟩) ?_ ?_
        rotate_left
        ·intro w'
         go_simp
         with_reducible rfl
        rotate_left
        ·simp only [Act.put, List.setIfInBounds_toArray, List.set_cons_zero, List.set_cons_succ, i64_w, i32_w]
         rfl
        refine one_ (i := 16) (N := none) #[true, true, true, true, true, true, true, true, true, true, true, true, true, true, true, true, true] rfl rfl (one_of HT_.out (by kernel_rfl)) (by decide) (fun K hK => ?_)
        have hs16 : w15.cell? ⟨gb246, 0, none⟩ = some (.string (⟨#[]⟩ : ByteArray)) := (blk_cell BK246.out 0).trans rfl
        have hfs16 := blk_frozen BK246.out 0
        have hns16_0 := NB245_246.out
        have hms16_0 := NB246_245.out
        have hs17 : w15.cell? ⟨gb246, 1, none⟩ = some (.bool false) := (blk_cell BK246.out 1).trans rfl
        have hfs17 := blk_frozen BK246.out 1
        have hns17_0 := NB245_246.out
        have hms17_0 := NB246_245.out
        refine skip_ (w1 := ?_) (by rfl) rfl ?_ ?_
        rotate_left
        ·go_simp
         rfl
        refine hK.out _ _ ⟨((cell_far (p := ⟨gb246, _, none⟩) NB245_246.out _).trans (((cell_far (p := ⟨gb246, _, none⟩) NB245_246.out _).trans (hHeld.1)))), ((cell_far (p := ⟨gb246, _, none⟩) NB245_246.out _).trans (((cell_far (p := ⟨gb246, _, none⟩) NB245_246.out _).trans (hHeld.2))))⟩ (fun hHeld => ?_)
        clear hK K
        refine done_ (done_of HT_.out (by kernel_rfl)) ?_
        try go_wp2
        refine bodyPost_ret (results_cell_row rfl _ _ gb246 64 #[.string (((a0_0.extract 0 (a1 : Int).toNat) ++ (⟨#[115]⟩ : ByteArray)) ++ (a0_0.extract ((ji7) : Int).toNat a0_0.size)), .bool (!true)] (0, 0) _ rfl (by (with_reducible repeat (first | refine blk_drewN ?_ _ | refine blk_drew ?_ | refine blk_alloc ?_ _)); refine blk_put (cs := #[.string (((a0_0.extract 0 (a1 : Int).toNat) ++ (⟨#[115]⟩ : ByteArray)) ++ (a0_0.extract ((ji7) : Int).toNat a0_0.size)), .bool false]) ?_ 1 _ rfl; (with_reducible repeat (first | refine blk_drewN ?_ _ | refine blk_drew ?_ | refine blk_alloc ?_ _)); refine blk_put (cs := #[.string (⟨#[]⟩ : ByteArray), .bool false]) ?_ 0 _ rfl; (with_reducible repeat (first | refine blk_drewN ?_ _ | refine blk_drew ?_ | refine blk_alloc ?_ _)); exact BK246.out) Tryd.underlying64 rfl (by kernel_rfl)) rfl ?_
        exact ⟨by first | rfl | (simp [errW_none, errW_some] <;> rfl) | (simp only [← hji7]; first | rfl | (simp [errW_none, errW_some] <;> rfl)) | (simp [*, errW_none, errW_some] <;> rfl), by repeat (first | (with_reducible first | exact HB.out | apply below_alloc | apply pw_below_drewN | apply below_drew1 | refine below_set ?_ GE245.out | refine below_set ?_ GE246.out) | exact HB.out)⟩
       ·rw [if_neg c10] at H
        exact absurd H (by simp)
      ·rw [if_neg c9] at H
       exact absurd H (by simp)
     ·rw [if_neg c8] at H
      exact absurd H (by simp)
    ·rw [if_neg c6] at H
     exact absurd H (by simp)
   ·rw [if_neg c5] at H
    exact absurd H (by simp)
  ·rw [if_neg c4] at H
   exact absurd H (by simp)
 ·replace c3 := Bool.eq_false_iff.mpr c3
  subst c3
  have H1 : (if 0 ≤ a1 then (if a1 ≤ (a0_0.size : Int) then (if (a0_0.extract 0 (a1 : Int).toNat).size + 1 ≤ 9223372036854775807 then (if 0 ≤ (wrap64 (a1 + 1)) then (if (wrap64 (a1 + 1)) ≤ (a0_0.size : Int) then (if ((a0_0.extract 0 (a1 : Int).toNat) ++ (⟨#[99]⟩ : ByteArray)).size + (a0_0.extract ((wrap64 (a1 + 1)) : Int).toNat a0_0.size).size ≤ 9223372036854775807 then (some (((a0_0.extract 0 (a1 : Int).toNat) ++ (⟨#[99]⟩ : ByteArray)) ++ (a0_0.extract ((wrap64 (a1 + 1)) : Int).toNat a0_0.size), !false)) else (none)) else (none)) else (none)) else (none)) else (none)) else (none)) = some (r1, r2) := by rw [if_neg (show ¬ (false = true) by decide)] at H; exact H
  clear H
  have H := H1
  clear H1
  by_cases c18 : 0 ≤ a1
  ·rw [if_pos c18] at H
   have c18b0 := eq_true c18
   have c18b1 : decide (0 ≤ a1) = true := decide_eq_true c18
   clear c18
   by_cases c19 : a1 ≤ (a0_0.size : Int)
   ·rw [if_pos c19] at H
    have c19b0 := eq_true c19
    have c19b1 : decide (a1 ≤ (a0_0.size : Int)) = true := decide_eq_true c19
    clear c19
    by_cases c20 : (a0_0.extract 0 (a1 : Int).toNat).size + 1 ≤ 9223372036854775807
    ·rw [if_pos c20] at H
     have c20b0 := eq_true c20
     have c20b1 : decide ((a0_0.extract 0 (a1 : Int).toNat).size + 1 ≤ 9223372036854775807) = true := decide_eq_true c20
     try have c20b2 : (9223372036854775807 < (a0_0.extract 0 (a1 : Int).toNat).size + 1) = False := eq_false (Nat.not_lt.2 c20)
     have zc0 : a1.toNat + 1 ≤ 9223372036854775807 := (by have h_ := c20; rw [ByteArray.size_extract] at h_; have g_ : a1 ≤ (a0_0.size : Int) := of_decide_eq_true ‹decide (a1 ≤ (a0_0.size : Int)) = true›; omega)
     have zcc20 : (9223372036854775807 < a1.toNat + 1) = False := eq_false (by omega)
     clear zc0
     obtain ⟨ji21, hji21⟩ : ∃ j_ : Int, (wrap64 (a1 + 1)) = j_ := ⟨_, rfl⟩
     replace H : (if 0 ≤ (ji21) then (if (ji21) ≤ (a0_0.size : Int) then (if ((a0_0.extract 0 (a1 : Int).toNat) ++ (⟨#[99]⟩ : ByteArray)).size + (a0_0.extract ((ji21) : Int).toNat a0_0.size).size ≤ 9223372036854775807 then (some (((a0_0.extract 0 (a1 : Int).toNat) ++ (⟨#[99]⟩ : ByteArray)) ++ (a0_0.extract ((ji21) : Int).toNat a0_0.size), !false)) else (none)) else (none)) else (none)) = some (r1, r2) := by first | (rw [hji21] at H; exact H) | (simp only [hji21] at H ⊢; exact H)
     have hji21w : (IntKind.i64.wrap (a1 + 1)) = ji21 := (i64_w _).trans hji21
     by_cases c22 : 0 ≤ (ji21)
     ·rw [if_pos c22] at H
      have c22b0 := eq_true c22
      have c22b1 : decide (0 ≤ (ji21)) = true := decide_eq_true c22
      clear c22
      by_cases c23 : (ji21) ≤ (a0_0.size : Int)
      ·rw [if_pos c23] at H
       have c23b0 := eq_true c23
       have c23b1 : decide ((ji21) ≤ (a0_0.size : Int)) = true := decide_eq_true c23
       clear c23
       by_cases c24 : ((a0_0.extract 0 (a1 : Int).toNat) ++ (⟨#[99]⟩ : ByteArray)).size + (a0_0.extract ((ji21) : Int).toNat a0_0.size).size ≤ 9223372036854775807
       ·rw [if_pos c24] at H
        have c24b0 := eq_true c24
        have c24b1 : decide (((a0_0.extract 0 (a1 : Int).toNat) ++ (⟨#[99]⟩ : ByteArray)).size + (a0_0.extract ((ji21) : Int).toNat a0_0.size).size ≤ 9223372036854775807) = true := decide_eq_true c24
        try have c24b2 : (9223372036854775807 < ((a0_0.extract 0 (a1 : Int).toNat) ++ (⟨#[99]⟩ : ByteArray)).size + (a0_0.extract ((ji21) : Int).toNat a0_0.size).size) = False := eq_false (Nat.not_lt.2 c24)
        have zc0 : a1.toNat + 1 + (a0_0.size - ji21.toNat) ≤ 9223372036854775807 := (by have h_ := c24; have e_ : (⟨#[99]⟩ : ByteArray).size = 1 := rfl; rw [ByteArray.size_append, ByteArray.size_extract, ByteArray.size_extract, e_] at h_; have g_ : a1 ≤ (a0_0.size : Int) := of_decide_eq_true ‹decide (a1 ≤ (a0_0.size : Int)) = true›; omega)
        have zcc24 : (9223372036854775807 < a1.toNat + 1 + (a0_0.size - ji21.toNat)) = False := eq_false (by omega)
        clear zc0
        simp only [Option.some.injEq, Prod.mk.injEq] at H
        obtain ⟨rfl, rfl⟩ := H
        go_enter Tryd.func48, Tryd.ntmps48
        try go_wp2_with (first | ((with_reducible refine gate_dst (N := 2) rfl ?_); refine box_event ?hg (N := 2) ?hd (cs := #[.string a0_0, .bool false]) (t := 64) ?hr ?_; (case hd => rfl); (case hg => rfl); (case hr => first | (go_simp; done) | (go_simp; rfl)); intro gb245 hg w25 hbox hb; have n0_ := Aside0.mk (below_step (by repeat (first | (with_reducible first | exact HB.out | apply below_alloc | apply pw_below_drewN | apply below_drew1) | exact HB.out)) hb); have n1_ := Aside0.mk (hbox); have n2_ := Aside0.mk ((by rw [hg]; exact (below_size (by repeat (first | (with_reducible first | exact HB.out | apply below_alloc | apply pw_below_drewN | apply below_drew1) | exact HB.out))) : w.heap.size ≤ gb245)); have n3_ := Aside0.mk ((by rw [hg]; exact (below_size (by repeat (first | (with_reducible first | exact HB.out | apply below_alloc | apply pw_below_drewN | apply below_drew1) | exact HB.out))) : w.heap.size ≤ gb245)); clear HB; have HB := n0_; have BK245 := n1_; have GW245 := n2_; have GE245 := n3_; clear n0_ n1_ n2_ n3_; clear hb hbox hg) | ((with_reducible refine gate_dst (N := 4) rfl ?_); refine box_event ?hg (N := 4) ?hd (cs := #[.string (⟨#[]⟩ : ByteArray), .bool false]) (t := 64) ?hr ?_; (case hd => rfl); (case hg => rfl); (case hr => first | (go_simp; done) | (go_simp; rfl)); intro gb246 hg w26 hbox hb; have n0_ := Aside0.mk (blk_below (g := gb245) (o := .cells #[.string a0_0, .bool false] 64 (0, 0)) (by (with_reducible repeat (first | refine blk_drewN ?_ _ | refine blk_drew ?_ | refine blk_alloc ?_ _)); exact BK245.out) hb); have n1_ := Aside0.mk (below_step (by repeat (first | (with_reducible first | exact HB.out | apply below_alloc | apply pw_below_drewN | apply below_drew1 | refine below_set ?_ GE245.out) | exact HB.out)) hb); have n2_ := Aside0.mk (hbox); have n3_ := Aside0.mk ((by rw [hg]; exact (below_size (by repeat (first | (with_reducible first | exact HB.out | apply below_alloc | apply pw_below_drewN | apply below_drew1 | refine below_set ?_ GE245.out) | exact HB.out))) : w.heap.size ≤ gb246)); have n4_ := Aside0.mk ((by rw [hg]; exact (below_size (by repeat (first | (with_reducible first | exact HB.out | apply below_alloc | apply pw_below_drewN | apply below_drew1 | refine below_set ?_ GE245.out) | exact HB.out))) : w.heap.size ≤ gb246)); have n5_ := Aside0.mk ((by rw [hg]; exact Nat.ne_of_lt (blk_lt (g := gb245) (o := .cells #[.string a0_0, .bool false] 64 (0, 0)) (by (with_reducible repeat (first | refine blk_drewN ?_ _ | refine blk_drew ?_ | refine blk_alloc ?_ _)); exact BK245.out)) : gb245 ≠ gb246)); have n6_ := Aside0.mk ((by rw [hg]; exact Nat.ne_of_gt (blk_lt (g := gb245) (o := .cells #[.string a0_0, .bool false] 64 (0, 0)) (by (with_reducible repeat (first | refine blk_drewN ?_ _ | refine blk_drew ?_ | refine blk_alloc ?_ _)); exact BK245.out)) : gb246 ≠ gb245)); clear BK245; clear HB; have BK245 := n0_; have HB := n1_; have BK246 := n2_; have GW246 := n3_; have GE246 := n4_; have NB245_246 := n5_; have NB246_245 := n6_; clear n0_ n1_ n2_ n3_ n4_ n5_ n6_; clear hb hbox hg; have hnb27 := NB245_246.out; have hnc27 := NB246_245.out; have hcz28_0 : w26.cell? ⟨gb245, 0, none⟩ = some (.string a0_0) := (blk_cell BK245.out 0).trans rfl; have hcz28_1 : w26.cell? ⟨gb245, 1, none⟩ = some (.bool false) := (blk_cell BK245.out 1).trans rfl; have hfz28_0 := blk_frozen BK245.out 0; have hfz28_1 := blk_frozen BK245.out 1))
        have n0_ := Aside0.mk (blk_drew BK245.out)
        have n1_ := Aside0.mk (blk_drew BK246.out)
        have n2_ := Aside0.mk (below_drew1 HB.out)
        clear BK245
        clear BK246
        clear HB
        have BK245 := n0_
        have BK246 := n1_
        have HB := n2_
        clear n0_ n1_ n2_
        refine start_ (n := 17) (S := fun w' => w'.cell? ⟨gb245, 0, none⟩ = some (.string a0_0) ∧ w'.cell? ⟨gb245, 1, none⟩ = some (.bool false)) (ds := []) #[false, false, false, false, false, false, false, false, false, false, false, false, false, false, false, false, false] (by kernel_rfl) rfl rfl ⟨(blk_cell BK245.out 0).trans rfl, (blk_cell BK245.out 1).trans rfl⟩ (fun hHeld => ?_); refine with_tabW impl_turn_after.tab4 impl_turn_after.bits4 (fun HT_ HW_ => ?_)
        generalize w26.drew = w29 at BK245 BK246 HB hHeld ⊢
        refine pure_ (i := 0) (N := some 8) (v := ?_) (a' := ?_) #[true, false, false, false, false, false, false, false, false, false, false, false, false, false, false, false, false] rfl rfl (any_of HT_.out (by kernel_rfl)) (fun _ _ _ h => h) (Or.inl ⟨by rfl, ?_⟩) ?_ ?_
        rotate_left
        ·intro w'
         go_simp
         with_reducible rfl
        rotate_left
        ·simp only [Act.put, List.setIfInBounds_toArray, List.set_cons_zero, List.set_cons_succ, i64_w, i32_w]
         rfl
        refine pure_ (i := 2) (N := some 10) (v := ?_) (a' := ?_) #[true, false, true, false, false, false, false, false, false, false, false, false, false, false, false, false, false] rfl rfl (any_of HT_.out (by kernel_rfl)) (fun _ _ _ h => h) (Or.inl ⟨by rfl, ?_⟩) ?_ ?_
        rotate_left
        ·intro w'
         go_simp
         with_reducible rfl
        rotate_left
        ·simp only [Act.put, List.setIfInBounds_toArray, List.set_cons_zero, List.set_cons_succ, i64_w, i32_w]
         rfl
        refine pure_ (i := 4) (N := some 12) (v := ?_) (a' := ?_) #[true, false, true, false, true, false, false, false, false, false, false, false, false, false, false, false, false] rfl rfl (any_of HT_.out (by kernel_rfl)) (fun _ _ _ h => h) (Or.inl ⟨by rfl, ?_⟩) ?_ ?_
        rotate_left
        ·intro w'
         go_simp
         with_reducible rfl
        rotate_left
        ·simp only [Act.put, List.setIfInBounds_toArray, List.set_cons_zero, List.set_cons_succ, i64_w, i32_w]
         rfl
        refine pure_ (i := 6) (N := some 14) (v := ?_) (a' := ?_) #[true, false, true, false, true, false, true, false, false, false, false, false, false, false, false, false, false] rfl rfl (any_of HT_.out (by kernel_rfl)) (fun _ _ _ h => h) (Or.inl ⟨by rfl, ?_⟩) ?_ ?_
        rotate_left
        ·intro w'
         go_simp
         with_reducible rfl
        rotate_left
        ·simp only [Act.put, List.setIfInBounds_toArray, List.set_cons_zero, List.set_cons_succ, i64_w, i32_w]
         rfl
        refine pure_ (i := 8) (N := some 16) (v := ?_) (a' := ?_) #[true, false, true, false, true, false, true, false, true, false, false, false, false, false, false, false, false] rfl rfl (any_of HT_.out (by kernel_rfl)) (fun _ _ _ h => h) (Or.inl ⟨by rfl, ?_⟩) ?_ ?_
        rotate_left
        ·intro w'
         go_simp
         with_reducible rfl
        rotate_left
        ·simp only [Act.put, List.setIfInBounds_toArray, List.set_cons_zero, List.set_cons_succ, i64_w, i32_w]
         rfl
        refine pure_ (i := 9) (N := some 17) (v := ?_) (a' := ?_) #[true, false, true, false, true, false, true, false, true, true, false, false, false, false, false, false, false] rfl rfl (any_of HT_.out (by kernel_rfl)) (fun _ _ _ h => h) (Or.inl ⟨by rfl, ?_⟩) ?_ ?_
        rotate_left
        ·intro w'
         go_simp
         with_reducible rfl
        rotate_left
        ·simp only [Act.put, List.setIfInBounds_toArray, List.set_cons_zero, List.set_cons_succ, i64_w, i32_w]
         rfl
        refine pure_ (i := 12) (N := some 20) (v := ?_) (a' := ?_) #[true, false, true, false, true, false, true, false, true, true, false, false, true, false, false, false, false] rfl rfl (any_of HT_.out (by kernel_rfl)) (fun _ _ _ h => h) (Or.inl ⟨by rfl, ?_⟩) ?_ ?_
        rotate_left
        ·intro w'
         go_simp
         with_reducible rfl
        rotate_left
        ·simp only [Act.put, List.setIfInBounds_toArray, List.set_cons_zero, List.set_cons_succ, i64_w, i32_w]
         rfl
        refine take_ (i := 1) (N := some 9) (v := ?_) (a' := ?_) #[true, true, true, false, true, false, true, false, true, true, false, false, true, false, false, false, false] rfl rfl (take_ofW HT_.out HW_.out (by kernel_rfl)) (fun _ _ _ h => h) (Or.inl ⟨by rfl, ?_⟩) hHeld ?_ ?_
        rotate_left
        ·rintro w' ⟨s0, s1⟩
         go_simp
         with_reducible rfl
        rotate_left
        ·simp only [Act.put, List.setIfInBounds_toArray, List.set_cons_zero, List.set_cons_succ, i64_w, i32_w]
         rfl
        refine pure_ (i := 3) (N := some 11) (v := ?_) (a' := ?_) #[true, true, true, true, true, false, true, false, true, true, false, false, true, false, false, false, false] rfl rfl (any_of HT_.out (by kernel_rfl)) (fun _ _ _ h => h) (Or.inl ⟨by rfl, ?_⟩) ?_ ?_
        rotate_left
        ·intro w'
         go_simp
         with_reducible rfl
        rotate_left
        ·simp only [Act.put, List.setIfInBounds_toArray, List.set_cons_zero, List.set_cons_succ, i64_w, i32_w]
         rfl
        refine pure_ (i := 5) (N := some 13) (v := ?_) (a' := ?_) #[true, true, true, true, true, true, true, false, true, true, false, false, true, false, false, false, false] rfl rfl (any_of HT_.out (by kernel_rfl)) (fun _ _ _ h => h) (Or.inl ⟨by rfl, ?_⟩) ?_ ?_
        rotate_left
        ·intro w'
         go_simp
         with_reducible rfl
        rotate_left
        ·simp only [Act.put, List.setIfInBounds_toArray, List.set_cons_zero, List.set_cons_succ, i64_w, i32_w]
         rfl
        refine take_ (i := 7) (N := some 15) (v := ?_) (a' := ?_) #[true, true, true, true, true, true, true, true, true, true, false, false, true, false, false, false, false] rfl rfl (take_ofW HT_.out HW_.out (by kernel_rfl)) (fun _ _ _ h => h) (Or.inl ⟨by rfl, ?_⟩) hHeld ?_ ?_
        rotate_left
        ·rintro w' ⟨s0, s1⟩
         go_simp
         with_reducible rfl
        rotate_left
        ·simp only [Act.put, List.setIfInBounds_toArray, List.set_cons_zero, List.set_cons_succ, i64_w, i32_w]
         rfl
        refine pure_ (i := 10) (N := some 18) (v := ?_) (a' := ?_) #[true, true, true, true, true, true, true, true, true, true, true, false, true, false, false, false, false] rfl rfl (any_of HT_.out (by kernel_rfl)) (fun _ _ _ h => h) (Or.inl ⟨by rfl, ?_⟩) ?_ ?_
        rotate_left
        ·intro w'
         go_simp
         with_reducible rfl
        rotate_left
        ·simp only [Act.put, List.setIfInBounds_toArray, List.set_cons_zero, List.set_cons_succ, i64_w, i32_w]
         rfl
        refine pure_ (i := 11) (N := some 19) (v := ?_) (a' := ?_) #[true, true, true, true, true, true, true, true, true, true, true, true, true, false, false, false, false] rfl rfl (any_of HT_.out (by kernel_rfl)) (fun _ _ _ h => h) (Or.inl ⟨by rfl, ?_⟩) ?_ ?_
        rotate_left
        ·intro w'
         go_simp
         with_reducible rfl
        rotate_left
        ·simp only [Act.put, List.setIfInBounds_toArray, List.set_cons_zero, List.set_cons_succ, i64_w, i32_w]
         rfl
        refine take_ (i := 13) (N := some 21) (v := ?_) (a' := ?_) #[true, true, true, true, true, true, true, true, true, true, true, true, true, true, false, false, false] rfl rfl (take_ofW HT_.out HW_.out (by kernel_rfl)) (fun _ _ _ h => h) (Or.inl ⟨by rfl, ?_⟩) hHeld ?_ ?_
        rotate_left
        ·rintro w' ⟨s0, s1⟩
         go_simp
         with_reducible rfl
        rotate_left
        ·simp only [Act.put, List.setIfInBounds_toArray, List.set_cons_zero, List.set_cons_succ, i64_w, i32_w]
         rfl
        refine pure_ (i := 14) (N := some 22) (v := ?_) (a' := ?_) #[true, true, true, true, true, true, true, true, true, true, true, true, true, true, true, false, false] rfl rfl (any_of HT_.out (by kernel_rfl)) (fun _ _ _ h => h) (Or.inl ⟨by rfl, ?_⟩) ?_ ?_
        rotate_left
        ·intro w'
         go_simp
         with_reducible rfl
        rotate_left
        ·simp only [Act.put, List.setIfInBounds_toArray, List.set_cons_zero, List.set_cons_succ, i64_w, i32_w]
         rfl
        refine pure_ (i := 15) (N := some 23) (v := ?_) (a' := ?_) #[true, true, true, true, true, true, true, true, true, true, true, true, true, true, true, true, false] rfl rfl (any_of HT_.out (by kernel_rfl)) (fun _ _ _ h => h) (Or.inl ⟨by rfl, ?_⟩) ?_ ?_
        rotate_left
        ·intro w'
         go_simp
         with_reducible rfl
        rotate_left
        ·simp only [Act.put, List.setIfInBounds_toArray, List.set_cons_zero, List.set_cons_succ, i64_w, i32_w]
         rfl
        refine one_ (i := 16) (N := none) #[true, true, true, true, true, true, true, true, true, true, true, true, true, true, true, true, true] rfl rfl (one_of HT_.out (by kernel_rfl)) (by decide) (fun K hK => ?_)
        have hs30 : w29.cell? ⟨gb246, 0, none⟩ = some (.string (⟨#[]⟩ : ByteArray)) := (blk_cell BK246.out 0).trans rfl
        have hfs30 := blk_frozen BK246.out 0
        have hns30_0 := NB245_246.out
        have hms30_0 := NB246_245.out
        have hs31 : w29.cell? ⟨gb246, 1, none⟩ = some (.bool false) := (blk_cell BK246.out 1).trans rfl
        have hfs31 := blk_frozen BK246.out 1
        have hns31_0 := NB245_246.out
        have hms31_0 := NB246_245.out
        refine skip_ (w1 := ?_) (by rfl) rfl ?_ ?_
        rotate_left
        ·go_simp
         rfl
        refine hK.out _ _ ⟨((cell_far (p := ⟨gb246, _, none⟩) NB245_246.out _).trans (((cell_far (p := ⟨gb246, _, none⟩) NB245_246.out _).trans (hHeld.1)))), ((cell_far (p := ⟨gb246, _, none⟩) NB245_246.out _).trans (((cell_far (p := ⟨gb246, _, none⟩) NB245_246.out _).trans (hHeld.2))))⟩ (fun hHeld => ?_)
        clear hK K
        refine done_ (done_of HT_.out (by kernel_rfl)) ?_
        try go_wp2
        refine bodyPost_ret (results_cell_row rfl _ _ gb246 64 #[.string (((a0_0.extract 0 (a1 : Int).toNat) ++ (⟨#[99]⟩ : ByteArray)) ++ (a0_0.extract ((ji21) : Int).toNat a0_0.size)), .bool (!false)] (0, 0) _ rfl (by (with_reducible repeat (first | refine blk_drewN ?_ _ | refine blk_drew ?_ | refine blk_alloc ?_ _)); refine blk_put (cs := #[.string (((a0_0.extract 0 (a1 : Int).toNat) ++ (⟨#[99]⟩ : ByteArray)) ++ (a0_0.extract ((ji21) : Int).toNat a0_0.size)), .bool false]) ?_ 1 _ rfl; (with_reducible repeat (first | refine blk_drewN ?_ _ | refine blk_drew ?_ | refine blk_alloc ?_ _)); refine blk_put (cs := #[.string (⟨#[]⟩ : ByteArray), .bool false]) ?_ 0 _ rfl; (with_reducible repeat (first | refine blk_drewN ?_ _ | refine blk_drew ?_ | refine blk_alloc ?_ _)); exact BK246.out) Tryd.underlying64 rfl (by kernel_rfl)) rfl ?_
        exact ⟨by first | rfl | (simp [errW_none, errW_some] <;> rfl) | (simp only [← hji21]; first | rfl | (simp [errW_none, errW_some] <;> rfl)) | (simp [*, errW_none, errW_some] <;> rfl), by repeat (first | (with_reducible first | exact HB.out | apply below_alloc | apply pw_below_drewN | apply below_drew1 | refine below_set ?_ GE245.out | refine below_set ?_ GE246.out) | exact HB.out)⟩
       ·rw [if_neg c24] at H
        exact absurd H (by simp)
      ·rw [if_neg c23] at H
       exact absurd H (by simp)
     ·rw [if_neg c22] at H
      exact absurd H (by simp)
    ·rw [if_neg c20] at H
     exact absurd H (by simp)
   ·rw [if_neg c19] at H
    exact absurd H (by simp)
  ·rw [if_neg c18] at H
   exact absurd H (by simp)
/-! ### impl_turn_open: function 49 -/
-- EXTERNAL: by hand
-- impl_chosen impl_Net_reached
def impl_turn_open.f (a0_0 : ByteArray) (a0_1 : Bool) : Option (List Int) := if a0_0.size ≤ 17592186044416 then some (freeV a0_0) else none
set_option maxHeartbeats 2000000 in
set_option maxRecDepth 100000 in
theorem openPred (g : Nat) (b : Bool) (s : ByteArray) (w : World) (hbox : w.heap[g]? = some (.cells #[.string s, .bool b] 64 (0, 0))) :
    PredD Tryd.prog 71 #[.pointer (some ⟨g, 0, none⟩)] (Kd.int .i64) (fun x => 0 ≤ x ∧ x < (s.size : Int)) (fun x => bt s x == 46) w := by
  intro W x v hq hK hb
  obtain ⟨h0, h1⟩ := hq
  obtain rfl : v = .int .i64 x := by simpa [Kd.int, Kd.scalar] using hK
  show Calls Tryd.prog 71 #[.int .i64 x, .pointer (some ⟨g, 0, none⟩)] W _
  have hc0 : W.cell? ⟨g, 0, none⟩ = some (.string s) := (blk_cell (blk_below hbox hb) 0).trans rfl
  have hx := bt_at s x
  have p := eq_true h0
  have q := eq_true h1
  clear hbox hb hK h0 h1
  go_enter Tryd.func71, Tryd.ntmps71
  go_wp2
  go_ret
  exact ⟨rfl, Drawn0.refl _⟩
set_option maxHeartbeats 4000000 in
set_option maxRecDepth 100000 in
theorem impl_turn_open.calls (a0_0 : ByteArray) (a0_1 : Bool) (r : List Int) (w : World) (h : impl_turn_open.f a0_0 a0_1 = some r) :
    Calls Tryd.prog 49 #[.agg #[.string a0_0, .bool a0_1]] w fun e w' => ∃ v0_ : Value, e = .returned v0_ ∧ Kd.R (Kd.int .i64) 2 w' w.heap.size (fun _ => True) v0_ r ∧ Below w.heap.size w w' := by
  unfold impl_turn_open.f at h
  by_cases hv : a0_0.size ≤ 17592186044416
  case neg => rw [if_neg hv] at h; cases h
  rw [if_pos hv] at h
  obtain rfl := Option.some.inj h
  clear h
  have eg1 : ∀ args w, (callFunc 71 args).run Tryd.prog w = .ok (.enter 71 args) w := enters_of Tryd.func71 (by kernel_rfl) rfl
  have HB := Aside0.mk (Below.refl w.heap.size w)
  have HS := Aside0.mk hv
  have hu := Tryd.underlying64
  clear hv
  go_enter Tryd.func49, Tryd.ntmps49
  go_wp2_with (first | ((with_reducible refine gate_dst (N := 1) rfl ?_); refine box_event ?hg (N := 1) ?hd (cs := #[.string a0_0, .bool a0_1]) (t := 64) ?hr ?_; (case hd => rfl); (case hg => rfl); (case hr => first | (go_simp; done) | (go_simp; rfl)); intro g1 hg_ w_ hbox hb; have HX1 := Aside0.mk hbox; have HG1 := Aside0.mk (show w.heap.size ≤ g1 by have := below_size HB.out; omega); clear hbox hg_; have nHB_ := Aside0.mk (below_step HB.out hb); clear HB hb; have HB := nHB_; clear nHB_; have hc10 := (blk_cell HX1.out 0).trans rfl; have hc11 := (blk_cell HX1.out 1).trans rfl) | (go_at_call 70; refine (impl_chosen.calls 71 #[.pointer (some ⟨g1, 0, none⟩)] _ (fun x => bt a0_0 x == 46) eg1 (a0_0.size : Int) _ (PredD.toK (openPred g1 a0_1 a0_0 _ HX1.out)) (fun x h0 h1 => ⟨h0, h1⟩) (by have := HS.out; omega)).mono ?_; rintro e w_ ⟨v_, rfl, ho, hb⟩; have HO := Aside0.mk (Kd.R_lower ho (below_size HB.out)); have nHB_ := Aside0.mk (below_step HB.out hb); clear HB hb ho; have HB := nHB_; clear nHB_))
  go_ret
  exact ⟨_, rfl, by have := HO.out; rw [Int.toNat_natCast] at this; exact this, HB.out⟩
/-! ### impl_bit: function 65 -/
def impl_bit.f (a0 : Bool) : Option (Int) := if a0 = true then (some 1) else (some 0)
set_option maxHeartbeats 8000000 in
set_option maxRecDepth 100000 in
theorem impl_bit.calls (a0 : Bool) (r : Int) (w : World) (h : impl_bit.f a0 = some r) :
  Calls Tryd.prog 65 #[.bool a0] w fun e w' => e = .returned (.int .i64 r) ∧ Drawn0 w w' := by
 have H : (if a0 = true then (some 1) else (some 0)) = some r := h
 clear h
 by_cases c2 : a0 = true
 ·subst c2
  have H1 : (some 1) = some r := by rw [if_pos rfl] at H; exact H
  clear H
  have H := H1
  clear H1
  obtain rfl := Option.some.inj H
  go_enter Tryd.func65, Tryd.ntmps65
  go_wp2
  go_ret
  exact ⟨by first | rfl | (simp; done) | (simp [*]; done), by repeat (first | exact Drawn0.refl _ | apply Drawn0.step)⟩
 ·replace c2 := Bool.eq_false_iff.mpr c2
  subst c2
  have H1 : (some 0) = some r := by rw [if_neg (show ¬ (false = true) by decide)] at H; exact H
  clear H
  have H := H1
  clear H1
  obtain rfl := Option.some.inj H
  go_enter Tryd.func65, Tryd.ntmps65
  go_wp2
  go_ret
  exact ⟨by first | rfl | (simp; done) | (simp [*]; done), by repeat (first | exact Drawn0.refl _ | apply Drawn0.step)⟩
/-! ### slices_IndexFunc_int64_int64_88: function 88 -/
-- EXTERNAL: by hand
set_option maxHeartbeats 4000000 in
set_option maxRecDepth 100000 in
theorem slices_IndexFunc_int64_int64_88.calls (g : Nat) (lb : Array Value) (q : Int → Prop) (p : Int → Bool) (eg : ∀ args w, (callFunc g args).run Tryd.prog w = .ok (.enter g args) w)
    (A0 : Option Addr) (c0 : Nat) (l0 : List Int) (w : World) (hp : PredK Tryd.prog g lb (Kd.int .i64) q p w) (hq : ∀ x ∈ l0, q x) (hr0 : Kd.C (Kd.int .i64) w A0 l0.length l0) (hm : l0.length ≤ 9223372036854775807) :
    Calls Tryd.prog 88 #[.slice A0 l0.length c0, .func (.func g) #[] lb] w fun e w' => e = .returned (.int .i64 (idxK p l0 0)) ∧ Below w.heap.size w w' := by
  have HP := Aside0.mk hp
  have HR := Aside0.mk hr0
  have HQ := Aside0.mk hq
  clear hp hr0 hq
  go_enter Tryd.func88, Tryd.ntmps88
  go_wp2
  go_loopg [5, 8] l0.length (fun gg _ s8 wr => ∃ kk : Nat, kk ≤ l0.length ∧ l0.length - kk ≤ gg ∧ s8 = .int .i64 kk ∧ Aside0 (idxK p (l0.drop kk) kk = idxK p l0 0) ∧ Aside0 (Below w.heap.size w wr))
  case atStart => exact ⟨0, Nat.zero_le _, by omega, rfl, ⟨rfl⟩, ⟨Below.refl _ _⟩⟩
  case round =>
    obtain ⟨kk, hkk, hg, rfl, A, HB⟩ := hrel
    by_cases hlt : kk < l0.length
    · have hltz : (kk : Int) < (l0.length : Int) := by omega
      obtain ⟨ad, v, rfl, hcell, hK⟩ := Kd.C_one rfl (Kd.C_below HR.out HB.out) kk hlt rfl
      have hcall := HP.out wr _ v (HQ.out _ (List.getElem_mem hlt)) hK HB.out
      have HK1 := (Kd.int .i64).K_one hK v (by simp)
      have E := Aside0.mk (idxK_drop p l0 kk hlt)
      generalize p l0[kk] = b at hcall E
      clear hK
      cases b with
      | true =>
        go_wp2_with (go_at_fn g; refine hcall.mono ?_; rintro e w' ⟨rfl, hb⟩)
        go_ret
        refine ⟨?_, below_then HB.out HB.out.size hb⟩
        rw [← A.out, E.out]; rfl
      | false =>
        go_wp2_with (go_at_fn g; refine hcall.mono ?_; rintro e w' ⟨rfl, hb⟩)
        go_roundg (l0.length - (kk + 1))
        case measure => omega
        case rel => exact ⟨kk + 1, by omega, by omega, by go_num, ⟨by rw [← A.out, E.out]; rfl⟩, ⟨below_then HB.out HB.out.size hb⟩⟩
    · have hltz : ¬ (kk : Int) < (l0.length : Int) := by omega
      have : kk = l0.length := by omega
      subst this
      go_wp2
      go_ret
      refine ⟨?_, HB.out⟩
      rw [← A.out]; simp [idxK]
set_option maxHeartbeats 4000000 in
set_option maxRecDepth 100000 in
theorem slices_IndexFunc_int64_int64_88.callsD (g : Nat) (lb : Array Value) (q : Int → Prop) (p : Int → Bool) (eg : ∀ args w, (callFunc g args).run Tryd.prog w = .ok (.enter g args) w)
    (A0 : Option Addr) (c0 : Nat) (l0 : List Int) (w : World) (hp : PredD Tryd.prog g lb (Kd.int .i64) q p w) (hq : ∀ x ∈ l0, q x) (hr0 : Kd.C (Kd.int .i64) w A0 l0.length l0) (hm : l0.length ≤ 9223372036854775807) :
    Calls Tryd.prog 88 #[.slice A0 l0.length c0, .func (.func g) #[] lb] w fun e w' => e = .returned (.int .i64 (idxK p l0 0)) ∧ Drawn0 w w' := by
  have HP := Aside0.mk hp
  have HR := Aside0.mk hr0
  have HQ := Aside0.mk hq
  clear hp hr0 hq
  go_enter Tryd.func88, Tryd.ntmps88
  go_wp2
  go_loopg [5, 8] l0.length (fun gg _ s8 wr => ∃ kk : Nat, kk ≤ l0.length ∧ l0.length - kk ≤ gg ∧ s8 = .int .i64 kk ∧ Aside0 (idxK p (l0.drop kk) kk = idxK p l0 0) ∧ Aside0 (Drawn0 w wr))
  case atStart => exact ⟨0, Nat.zero_le _, by omega, rfl, ⟨rfl⟩, ⟨Drawn0.refl _⟩⟩
  case round =>
    obtain ⟨kk, hkk, hg, rfl, A, HB⟩ := hrel
    by_cases hlt : kk < l0.length
    · have hltz : (kk : Int) < (l0.length : Int) := by omega
      obtain ⟨ad, v, rfl, hcell, hK⟩ := Kd.C_one rfl (Kd.C_below HR.out HB.out.below) kk hlt rfl
      have hcall := HP.out wr _ v (HQ.out _ (List.getElem_mem hlt)) hK HB.out.below
      have HK1 := (Kd.int .i64).K_one hK v (by simp)
      have E := Aside0.mk (idxK_drop p l0 kk hlt)
      generalize p l0[kk] = b at hcall E
      clear hK
      cases b with
      | true =>
        go_wp2_with (go_at_fn g; refine hcall.mono ?_; rintro e w' ⟨rfl, hb⟩)
        go_ret
        refine ⟨?_, drawn_trans HB.out hb⟩
        rw [← A.out, E.out]; rfl
      | false =>
        go_wp2_with (go_at_fn g; refine hcall.mono ?_; rintro e w' ⟨rfl, hb⟩)
        go_roundg (l0.length - (kk + 1))
        case measure => omega
        case rel => exact ⟨kk + 1, by omega, by omega, by go_num, ⟨by rw [← A.out, E.out]; rfl⟩, ⟨drawn_trans HB.out hb⟩⟩
    · have hltz : ¬ (kk : Int) < (l0.length : Int) := by omega
      have : kk = l0.length := by omega
      subst this
      go_wp2
      go_ret
      refine ⟨?_, HB.out⟩
      rw [← A.out]; simp [idxK]
set_option maxHeartbeats 4000000 in
set_option maxRecDepth 100000 in
/-- The same of a function value that may turn what lies, as long as I goes on (I counts the calls). -/
theorem slices_IndexFunc_int64_int64_88.callsI (g : Nat) (lb : Array Value) (p : Int → Bool) (eg : ∀ args w, (callFunc g args).run Tryd.prog w = .ok (.enter g args) w) (I : Nat → World → Prop)
    (A0 : Option Addr) (c0 : Nat) (l0 : List Int) (w : World) (hI : I 0 w) (hp : ∀ i W x, i < l0.length → I i W → x ∈ l0 → Calls Tryd.prog g (#[.int .i64 x] ++ lb) W fun e W' => e = .returned (.bool (p x)) ∧ I (i + 1) W') (hC : ∀ i W, I i W → Kd.C (Kd.int .i64) W A0 l0.length l0) (hm : l0.length ≤ 9223372036854775807) :
    Calls Tryd.prog 88 #[.slice A0 l0.length c0, .func (.func g) #[] lb] w fun e w' => e = .returned (.int .i64 (idxK p l0 0)) ∧ ∃ i, i ≤ l0.length ∧ I i w' := by
  have HP := Aside0.mk hp
  have HR := Aside0.mk hC
  have H0 := Aside0.mk hI
  clear hp hC hI
  go_enter Tryd.func88, Tryd.ntmps88
  go_wp2
  go_loopg [5, 8] l0.length (fun gg _ s8 wr => ∃ kk : Nat, kk ≤ l0.length ∧ l0.length - kk ≤ gg ∧ s8 = .int .i64 kk ∧ Aside0 (idxK p (l0.drop kk) kk = idxK p l0 0) ∧ Aside0 (I kk wr))
  case atStart => exact ⟨0, Nat.zero_le _, by omega, rfl, ⟨rfl⟩, H0⟩
  case round =>
    obtain ⟨kk, hkk, hg, rfl, A, HB⟩ := hrel
    clear H0
    by_cases hlt : kk < l0.length
    · have hltz : (kk : Int) < (l0.length : Int) := by omega
      obtain ⟨ad, v, rfl, hcell, hK⟩ := Kd.C_one rfl (HR.out kk wr HB.out) kk hlt rfl
      obtain rfl : v = .int .i64 l0[kk] := by simpa [Kd.int, Kd.scalar] using hK
      have hcall := HP.out kk wr _ hlt HB.out (List.getElem_mem hlt)
      have E := Aside0.mk (idxK_drop p l0 kk hlt)
      generalize p l0[kk] = b at hcall E
      generalize l0[kk] = x at hcall hcell
      clear hK
      cases b with
      | true =>
        go_wp2_with (go_at_fn g; refine hcall.mono ?_; rintro e w' ⟨rfl, hb⟩)
        go_ret
        refine ⟨?_, kk + 1, hlt, hb⟩
        rw [← A.out, E.out]; rfl
      | false =>
        go_wp2_with (go_at_fn g; refine hcall.mono ?_; rintro e w' ⟨rfl, hb⟩; have HB2 := Aside0.mk hb; clear hb)
        go_roundg (l0.length - (kk + 1))
        case measure => omega
        case rel => exact ⟨kk + 1, by omega, by omega, by go_num, ⟨by rw [← A.out, E.out]; rfl⟩, HB2⟩
    · have hltz : ¬ (kk : Int) < (l0.length : Int) := by omega
      have : kk = l0.length := by omega
      subst this
      go_wp2
      go_ret
      refine ⟨?_, _, Nat.le_refl _, HB.out⟩
      rw [← A.out]; simp [idxK]
/-! ### slices_ContainsFunc_int64_int64_66: function 66 -/
-- EXTERNAL: by hand
set_option maxHeartbeats 1000000 in
theorem slices_ContainsFunc_int64_int64_66.calls (g : Nat) (lb : Array Value) (q : Int → Prop) (p : Int → Bool) (eg : ∀ args w, (callFunc g args).run Tryd.prog w = .ok (.enter g args) w)
    (A0 : Option Addr) (c0 : Nat) (l0 : List Int) (w : World) (hp : PredK Tryd.prog g lb (Kd.int .i64) q p w) (hq : ∀ x ∈ l0, q x) (hr0 : Kd.C (Kd.int .i64) w A0 l0.length l0) (hm : l0.length ≤ 9223372036854775807) :
    Calls Tryd.prog 66 #[.slice A0 l0.length c0, .func (.func g) #[] lb] w fun e w' => e = .returned (.bool (l0.any p)) ∧ Below w.heap.size w w' := by
  rw [← idxK_any]
  have HI := slices_IndexFunc_int64_int64_88.calls g lb q p eg A0 c0 l0 w hp hq hr0 hm
  clear hp hq hr0
  generalize idxK p l0 0 = r at HI ⊢
  go_enter Tryd.func66, Tryd.ntmps66
  go_wp2_with (go_at_call 88; refine HI.mono ?_; rintro e w' ⟨rfl, hb⟩)
  go_ret
  exact ⟨rfl, hb⟩
set_option maxHeartbeats 1000000 in
theorem slices_ContainsFunc_int64_int64_66.callsD (g : Nat) (lb : Array Value) (q : Int → Prop) (p : Int → Bool) (eg : ∀ args w, (callFunc g args).run Tryd.prog w = .ok (.enter g args) w)
    (A0 : Option Addr) (c0 : Nat) (l0 : List Int) (w : World) (hp : PredD Tryd.prog g lb (Kd.int .i64) q p w) (hq : ∀ x ∈ l0, q x) (hr0 : Kd.C (Kd.int .i64) w A0 l0.length l0) (hm : l0.length ≤ 9223372036854775807) :
    Calls Tryd.prog 66 #[.slice A0 l0.length c0, .func (.func g) #[] lb] w fun e w' => e = .returned (.bool (l0.any p)) ∧ Drawn0 w w' := by
  rw [← idxK_any]
  have HI := slices_IndexFunc_int64_int64_88.callsD g lb q p eg A0 c0 l0 w hp hq hr0 hm
  clear hp hq hr0
  generalize idxK p l0 0 = r at HI ⊢
  go_enter Tryd.func66, Tryd.ntmps66
  go_wp2_with (go_at_call 88; refine HI.mono ?_; rintro e w' ⟨rfl, hb⟩)
  go_ret
  exact ⟨rfl, hb⟩
set_option maxHeartbeats 1000000 in
theorem slices_ContainsFunc_int64_int64_66.callsI (g : Nat) (lb : Array Value) (p : Int → Bool) (eg : ∀ args w, (callFunc g args).run Tryd.prog w = .ok (.enter g args) w) (I : Nat → World → Prop)
    (A0 : Option Addr) (c0 : Nat) (l0 : List Int) (w : World) (hI : I 0 w) (hp : ∀ i W x, i < l0.length → I i W → x ∈ l0 → Calls Tryd.prog g (#[.int .i64 x] ++ lb) W fun e W' => e = .returned (.bool (p x)) ∧ I (i + 1) W') (hC : ∀ i W, I i W → Kd.C (Kd.int .i64) W A0 l0.length l0) (hm : l0.length ≤ 9223372036854775807) :
    Calls Tryd.prog 66 #[.slice A0 l0.length c0, .func (.func g) #[] lb] w fun e w' => e = .returned (.bool (l0.any p)) ∧ ∃ i, i ≤ l0.length ∧ I i w' := by
  rw [← idxK_any]
  have HI := slices_IndexFunc_int64_int64_88.callsI g lb p eg I A0 c0 l0 w hI hp hC hm
  clear hp hI hC
  generalize idxK p l0 0 = r at HI ⊢
  go_enter Tryd.func66, Tryd.ntmps66
  go_wp2_with (go_at_call 88; refine HI.mono ?_; rintro e w' ⟨rfl, hb⟩)
  go_ret
  exact ⟨rfl, hb⟩
-- A literal as a block of its own, and stores into blocks that are new.
section
variable {P : Program} {ops : Array Oper} {rest : List Oper} {o : Oper} {a : Act} {Q : Exit → Act → World → Prop}
theorem lit_event {W : World} (hgd : o.guard = none) {N : Tmp} (_hd : o.dst = some N) {cs : Array Value} {t : TypeId} {n : Nat}
    (hrun : (execOp a.eval o).run P W = .ok (.value (.slice (some ⟨W.heap.size, 0, none⟩) n n)) (W.alloc (.cells cs t (0, 0))))
    (h : ∀ g, g = W.heap.size → ∀ w1, w1.heap[g]? = some (.cells cs t (0, 0)) → Below W.heap.size W w1 → wpList P ops Q rest (a.put o.dst (.slice (some ⟨g, 0, none⟩) n n)) w1) : wpList P ops Q (o :: rest) a W :=
  Kd.event_run hgd hrun (h _ rfl _ (blk_new W _) (below_alloc (Below.refl _ _) _))
end
theorem arr_below {B : Nat} {w W : World} (h : Below B w W) {g : Nat} (hg : B ≤ g) (i : Nat) (u : Value) : Below B w (W.setCell ⟨g, i, none⟩ u) :=
  h.trans ⟨rfl, rfl, rfl, by simp [World.setCell], fun k hk => Below.heap_setCell W ⟨g, i, none⟩ u k (by show k ≠ g; omega)⟩
theorem run_store_func {P : Program} {w : World} {a : Addr} {m : Mode} (f : Fn) (t b : Array Value) : (store a (.func f t b) m).run P w = stored P w a (.func f t b) m := run_store P w a _ m rfl
-- needs: maps that keep what is known (memo)
/-- What a map keeps is so. -/
def Memo (P : Program) (k : TypeId) (F : Value → Int → Prop) (D : DataW Unit) : Prop :=
  ∀ key kl c, keyOf P k key = some kl → Go.Maps.has D kl = true → D.atKey kl (.lit (.int .i64 0)) = .lit (.int .i64 c) → F key c
theorem Memo.empty {P : Program} {k : TypeId} {F : Value → Int → Prop} : Memo P k F (.map []) := fun _ _ _ _ h => by simp [Go.Maps.has] at h
theorem Memo.put {P : Program} {k : TypeId} {F : Value → Int → Prop} {D : DataW Unit} (K : Go.Maps.Keyed P k) (hm : Go.Maps.IsMap D) (h : Memo P k F D) {key : Value} {kl : Lit} {c : Int} (hk : keyOf P k key = some kl) (hF : F key c) :
    Memo P k F (D.put kl (.lit (.int .i64 c))) := by
  intro key' kl' c' hk' hh ha
  by_cases e : kl' = kl
  · subst e
    have : key' = key := K.inj hk' hk
    subst this
    rw [Go.Maps.atKey_put_same hm (K.key hk)] at ha
    injection ha with ha
    injection ha with _ ha
    exact ha ▸ hF
  · rw [Go.Maps.has_put_other e] at hh
    rw [Go.Maps.atKey_put_other e] at ha
    exact h key' kl' c' hk' hh ha
/-- Block gm is a map of at most N entries that keeps what is so. -/
def HasMemo (P : Program) (k e : TypeId) (F : Value → Int → Prop) (gm N : Nat) (W : World) : Prop := ∃ D : DataW Unit, W.ownsMap P k (plainElem P e) gm N D ∧ Memo P k F D
theorem HasMemo.mono {P : Program} {k e : TypeId} {F : Value → Int → Prop} {gm N N' : Nat} {W : World} (h : HasMemo P k e F gm N W) (hN : N ≤ N') : HasMemo P k e F gm N' W := by
  obtain ⟨D, h1, h2⟩ := h
  exact ⟨D, h1.mono hN, h2⟩
theorem HasMemo.below {P : Program} {k e : TypeId} {F : Value → Int → Prop} {gm N : Nat} {W W' : World} (h : HasMemo P k e F gm N W) (hb : Below W.heap.size W W') : HasMemo P k e F gm N W' := by
  obtain ⟨D, h1, h2⟩ := h
  exact ⟨D, h1.kept (grown_of_below hb none) (by simp), h2⟩
theorem HasMemo.drew {P : Program} {k e : TypeId} {F : Value → Int → Prop} {gm N : Nat} {W : World} (h : HasMemo P k e F gm N W) : HasMemo P k e F gm N W.drew := by
  obtain ⟨D, h1, h2⟩ := h
  exact ⟨D, h1.drew, h2⟩
theorem HasMemo.lt {P : Program} {k e : TypeId} {F : Value → Int → Prop} {gm N : Nat} {W : World} (h : HasMemo P k e F gm N W) : gm < W.heap.size := by
  obtain ⟨D, h1, _⟩ := h
  exact h1.lt
theorem grown_refl_some (W : World) (g : Nat) : W.grownBy W (some g) := World.grownBy.refl W (some g)
theorem grown_after_below {w W W2 : World} {g : Nat} (hb : Below w.heap.size w W) (h : W.grownBy W2 (some g)) : w.grownBy W2 (some g) := (grown_of_below hb (some g)).trans h
theorem blk_grownB {W W2 : World} {g gm : Nat} {o : Obj} (h : W.heap[g]? = some o) (hg : W.grownBy W2 (some gm)) (hne : g ≠ gm) : W2.heap[g]? = some o := blk_grown h hg (fun e => hne (by injection e))
section
variable {P : Program} {ops : Array Oper} {S : World → Prop} {ds : List Nat} {md : Region.Mode} {Q : Exit → Act → World → Prop}
/-- A call of a function value in a region of open order. -/
theorem goesF_ {oi : Oper} {N : Option Tmp} {a : Act} {w : World} {K : Act → World → Prop} {g : FuncId} {x : Operand} {lb : Array Value} {as_ : Array Operand} {ts : Array TypeId} (eg : ∀ args w, (callFunc g args).run P w = .ok (.enter g args) w) (args : Array Value)
    (hw : Region.wanted oi (yielded ops a.tmps) = true) (hN : oi.dst = N) (hop : oi.op = .call { callee := .value x, args := as_, argTypes := ts }) (hx : a.eval x = .func (.func g) #[] lb) (hargs : as_.map a.eval = args)
    (h : Calls P g (args ++ lb) w fun e w' => ∃ v, e = .returned v ∧ K (a.put N v) w') : if Region.wanted oi (yielded ops a.tmps) = true then Oper.wp P oi a w K Q else K (a.put N undef) w := by
  refine call_ g (args ++ lb) hw hN ?_ h
  unfold execOp
  simp [hop, resolve, Deferred.ofValue, invoke, hx, hargs, eg]
/-- A map that is made. -/
theorem made_event {rest : List Oper} {o : Oper} {a : Act} {W : World} (hgd : o.guard = none) {N : Tmp} (_hd : o.dst = some N) (k : TypeId) (R : Value → Option (DataW Unit × List MemPlace))
    (hrun : (execOp a.eval o).run P W = .ok (.value (.map (some W.heap.size))) (W.alloc (.map #[] 0)))
    (h : ∀ g, g = W.heap.size → ∀ w1, w1.ownsMap P k R g 0 (.map []) → Below W.heap.size W w1 → wpList P ops Q rest (a.put o.dst (.map (some g))) w1) : wpList P ops Q (o :: rest) a W :=
  Kd.event_run hgd hrun (h _ rfl _ (World.ownsMap_made _ _ _ _) (below_alloc (Below.refl _ _) _))
theorem run_store_map_ {P : Program} {w : World} {a : Addr} {m : Mode} (g : Option Nat) : (store a (.map g) m).run P w = stored P w a (.map g) m := run_store P w a _ m rfl
end
/-! ### impl_Net_winners: function 41 -/
-- EXTERNAL: by hand
-- impl_Net_over impl_turn_open impl_turn_after slices_ContainsFunc_int64_int64_66 impl_bit
theorem turnKeyed : Go.Maps.Keyed Tryd.prog 64 := Go.Maps.Keyed.of_law (deep_law_laid (P := Tryd.prog) (by kernel_rfl) (m := 2) (by omega) (of_decide_eq_true (by kernel_rfl)) (by kernel_rfl) (by kernel_rfl))
theorem turnKey (s : ByteArray) (b : Bool) (h : s.size ≤ maxLen) : ∃ kl, keyOf Tryd.prog 64 (.agg #[.string s, .bool b]) = some kl := by
  have h1 : Tryd.prog.keyType 64 = true := by kernel_rfl
  have h2 : (Value.agg #[.string s, .bool b]).formed Tryd.prog 64 = true := by
    simp only [Value.formed, Tryd.underlying64]
    have : Tryd.prog.cellsOf 64 = 2 := by kernel_rfl
    rw [this]; rfl
  have h3 : Tryd.prog.keyLits (Tryd.prog.types.size + 1) 64 [.string s, .bool b] = some [.string s.data.toList, .bool b] := by
    obtain ⟨m, hm⟩ : ∃ m, Tryd.prog.types.size = m + 1 := ⟨Tryd.prog.types.size - 1, by kernel_rfl⟩
    have c0 : Tryd.prog.cellsOf 64 = 2 := by kernel_rfl
    have c1 : Tryd.prog.cellsOf 9 = 1 := by kernel_rfl
    have c2 : Tryd.prog.cellsOf 4 = 1 := by kernel_rfl
    rw [hm]
    simp [Program.keyLits, Tryd.underlying64, Tryd.underlying9, Tryd.underlying4, c0, c1, c2, h]
  unfold keyOf
  simp only [Tryd.underlying64]
  rw [h1, h2]
  simp only [Bool.and_self, if_true]
  rw [show (Value.agg #[Value.string s, Value.bool b]).cells.toList = [.string s, .bool b] from rfl, h3]
  exact ⟨_, rfl⟩
/-- What the map of winners keeps. -/
def WinF (l : List (List Int)) (v : Value) (c : Int) : Prop := ∀ s b, v = .agg #[.string s, .bool b] → c = netWin l s b
/-- How many entries a call with d open edges may make. -/
def winCnt : Nat → Nat
  | 0 => 1
  | d + 1 => (d + 1) * winCnt d + 1
theorem winCnt_pos (d : Nat) : 1 ≤ winCnt d := by cases d <;> simp [winCnt]
structure WinEnv (w0 : World) (gK gX gF gm : Nat) (p : Int) (A : Option Addr) (c : Nat) (l : List (List Int)) (N : Nat) (W : World) : Prop where
  below : Below w0.heap.size w0 W
  hk : W.heap[gK]? = some (.cells #[.map (some gm)] 86 (0, 0))
  hx : W.heap[gX]? = some (.cells #[.int .i64 p, .slice A l.length c] 28 (0, 0))
  hf : W.heap[gF]? = some (.cells #[.func (.func 64) #[] #[.pointer (some ⟨gK, 0, none⟩), .pointer (some ⟨gX, 0, none⟩), .pointer (some ⟨gF, 0, none⟩)]] 61 (0, 0))
  memo : HasMemo Tryd.prog 64 2 (WinF l) gm N W
  ne : gm ≠ gK ∧ gm ≠ gX ∧ gm ≠ gF
  base : w0.heap.size ≤ gm
theorem WinEnv.step {w0 : World} {gK gX gF gm : Nat} {p : Int} {A : Option Addr} {c : Nat} {l : List (List Int)} {N : Nat} {W W' : World} (h : WinEnv w0 gK gX gF gm p A c l N W) (hb : Below W.heap.size W W') : WinEnv w0 gK gX gF gm p A c l N W' :=
  ⟨below_step h.below hb, blk_below h.hk hb, blk_below h.hx hb, blk_below h.hf hb, h.memo.below hb, h.ne, h.base⟩
theorem WinEnv.drew {w0 : World} {gK gX gF gm : Nat} {p : Int} {A : Option Addr} {c : Nat} {l : List (List Int)} {N : Nat} {W : World} (h : WinEnv w0 gK gX gF gm p A c l N W) : WinEnv w0 gK gX gF gm p A c l N W.drew :=
  ⟨below_drew1 h.below, blk_drew h.hk, blk_drew h.hx, blk_drew h.hf, h.memo.drew, h.ne, h.base⟩
theorem WinEnv.mono {w0 : World} {gK gX gF gm : Nat} {p : Int} {A : Option Addr} {c : Nat} {l : List (List Int)} {N N' : Nat} {W : World} (h : WinEnv w0 gK gX gF gm p A c l N W) (hN : N ≤ N') : WinEnv w0 gK gX gF gm p A c l N' W :=
  ⟨h.below, h.hk, h.hx, h.hf, h.memo.mono hN, h.ne, h.base⟩
theorem after_val (s : ByteArray) (b : Bool) (k : Int) (h0 : 0 ≤ k) (h1 : k < (s.size : Int)) (hs : s.size ≤ 4611686018427387904) : impl_turn_after.f s b k = some (afterV s k b, !b) := by
  have hw : wrap64 (k + 1) = k + 1 := by unfold wrap64; omega
  have e1 : (⟨#[115]⟩ : ByteArray).size = 1 := rfl
  have e2 : (⟨#[99]⟩ : ByteArray).size = 1 := rfl
  unfold impl_turn_after.f afterV signV
  rw [hw]
  cases b with
  | true =>
    rw [if_pos rfl, if_pos h0, if_pos (by omega), if_pos (by rw [ByteArray.size_extract]; omega), if_pos (by omega), if_pos (by omega), if_pos (by rw [ByteArray.size_append, ByteArray.size_extract, ByteArray.size_extract, e1]; omega)]
    rfl
  | false =>
    rw [if_neg (by simp), if_pos h0, if_pos (by omega), if_pos (by rw [ByteArray.size_extract]; omega), if_pos (by omega), if_pos (by omega), if_pos (by rw [ByteArray.size_append, ByteArray.size_extract, ByteArray.size_extract, e2]; omega)]
    rfl
theorem eg_find : ∀ args w, (callFunc 64 args).run Tryd.prog w = .ok (.enter 64 args) w := enters_of Tryd.func64 (by kernel_rfl) rfl
theorem eg_wpred : ∀ args w, (callFunc 67 args).run Tryd.prog w = .ok (.enter 67 args) w := enters_of Tryd.func67 (by kernel_rfl) rfl
/-- What the finder does, for at most d open edges. -/
def FindDoes (w0 : World) (gK gX gF gm : Nat) (p : Int) (A : Option Addr) (c : Nat) (l : List (List Int)) (d : Nat) : Prop :=
  ∀ (s : ByteArray) (b : Bool) (N : Nat) (W : World), (freeV s).length ≤ d → s.size = l.length → WinEnv w0 gK gX gF gm p A c l N W → N + winCnt d < maxLen →
    Calls Tryd.prog 64 #[.agg #[.string s, .bool b], .pointer (some ⟨gK, 0, none⟩), .pointer (some ⟨gX, 0, none⟩), .pointer (some ⟨gF, 0, none⟩)] W fun e W' => e = .returned (.int .i64 (netWin l s b)) ∧ WinEnv w0 gK gX gF gm p A c l (N + winCnt d) W' ∧ W.grownBy W' (some gm)
def winPred.T1 : Bool × List (List Nat × List Nat) := (true, [([], []), ([], []), ([], []), ([1, 2], [1, 2]), ([0, 3, 3], [0, 3]), ([], []), ([4, 5], [4, 5]), ([6, 4, 0, 1, 2, 3, 4, 5, 6], [6])])
def winPred.B1 : List Nat := [0, 0, 0, 6, 15, 0, 63, 127]
theorem winPred.tab1 : rtab .any (opsOf Tryd.f67 1) = winPred.T1 := by kernel_rfl
theorem winPred.bits1 : waitsOk winPred.T1.2 winPred.B1 = true := by kernel_rfl
set_option maxHeartbeats 4000000 in
set_option maxRecDepth 100000 in
theorem winPred (w0 : World) (gK gX gF gm : Nat) (p : Int) (A : Option Addr) (c : Nat) (l : List (List Int)) (d : Nat) (IH : FindDoes w0 gK gX gF gm p A c l d) (hl : l.length ≤ 10)
    (gt go : Nat) (s : ByteArray) (b : Bool) (o : Int) (N : Nat) (W : World) (x : Int) (ht : W.heap[gt]? = some (.cells #[.string s, .bool b] 64 (0, 0))) (ho : W.heap[go]? = some (.cells #[.int .i64 o] 2 (0, 0))) (hne : gt ≠ gm ∧ go ≠ gm)
    (hx : x ∈ freeV s) (hd : (freeV s).length ≤ d + 1) (hs : s.size = l.length) (hE : WinEnv w0 gK gX gF gm p A c l N W) (hN : N + winCnt d < maxLen) :
    Calls Tryd.prog 67 #[.int .i64 x, .pointer (some ⟨gF, 0, none⟩), .pointer (some ⟨gt, 0, none⟩), .pointer (some ⟨go, 0, none⟩)] W fun e W' => e = .returned (.bool (netWin l (afterV s x b) (!b) == o)) ∧ WinEnv w0 gK gX gF gm p A c l (N + winCnt d) W' ∧ W.grownBy W' (some gm) := by
  obtain ⟨x0, x1, _⟩ := mem_chosenTo.1 hx
  have hav := after_val s b x x0 x1 (by omega)
  have hfl := free_less s x b hx
  have hsz : (afterV s x b).size = l.length := by
    obtain ⟨j, rfl⟩ : ∃ j : Nat, x = (j : Int) := ⟨x.toNat, by omega⟩
    rw [afterV_size s j b (by omega), hs]
  have HAV := Aside0.mk hav
  have HIH := Aside0.mk (fun W' hE' => IH (afterV s x b) (!b) N W' (by omega) hsz hE' hN)
  generalize afterV s x b = s' at HAV HIH
  generalize (!b) = b' at HAV HIH
  generalize netWin l s' b' = r at HIH ⊢
  have n1_ := Aside0.mk hE.drew
  have n2_ := Aside0.mk (blk_drew ht)
  have n3_ := Aside0.mk (blk_drew ho)
  have HNE := Aside0.mk hne
  have HGM := Aside0.mk hE.memo.lt
  have HWD := Aside0.mk (show Below W.heap.size W W.drew from below_drew1 (Below.refl _ _))
  have HNF := Aside0.mk hE.ne
  have hu := Tryd.underlying64
  clear IH ht ho hne hx hd hs hE hN x0 x1 hav hfl hsz
  go_enter Tryd.func67, Tryd.ntmps67
  try go_wp2
  refine start_ (n := 8) (S := fun w' => w'.cell? ⟨gF, 0, none⟩ = some (.func (.func 64) #[] #[.pointer (some ⟨gK, 0, none⟩), .pointer (some ⟨gX, 0, none⟩), .pointer (some ⟨gF, 0, none⟩)]) ∧ w'.cell? ⟨gt, 0, none⟩ = some (.string s) ∧ w'.cell? ⟨gt, 1, none⟩ = some (.bool b) ∧ w'.cell? ⟨go, 0, none⟩ = some (.int .i64 o)) (ds := []) #[false, false, false, false, false, false, false, false] (by kernel_rfl) rfl rfl ⟨(blk_cell n1_.out.hf 0).trans rfl, (blk_cell n2_.out 0).trans rfl, (blk_cell n2_.out 1).trans rfl, (blk_cell n3_.out 0).trans rfl⟩ (fun hHeld => ?_)
  refine with_tabW winPred.tab1 winPred.bits1 (fun HT_ HW_ => ?_)
  generalize hq_ : W.drew = wd_ at n1_ n2_ n3_ HWD hHeld ⊢
  clear hq_
  refine take_ (i := 0) (N := some 6) (v := ?_) (a' := ?_) #[true, false, false, false, false, false, false, false] rfl rfl (take_ofW HT_.out HW_.out (by kernel_rfl)) (fun _ _ _ h => h) (Or.inl ⟨by rfl, ?_⟩) hHeld ?_ ?_
  rotate_left
  · rintro w' ⟨s0, s1, s2, s3⟩
    go_simp
    with_reducible rfl
  rotate_left
  · simp only [Act.put, List.setIfInBounds_toArray, List.set_cons_zero, List.set_cons_succ, i64_w, i32_w]
    rfl
  refine take_ (i := 1) (N := some 7) (v := ?_) (a' := ?_) #[true, true, false, false, false, false, false, false] rfl rfl (take_ofW HT_.out HW_.out (by kernel_rfl)) (fun _ _ _ h => h) (Or.inl ⟨by rfl, ?_⟩) hHeld ?_ ?_
  rotate_left
  · rintro w' ⟨s0, s1, s2, s3⟩
    go_simp
    with_reducible rfl
  rotate_left
  · simp only [Act.put, List.setIfInBounds_toArray, List.set_cons_zero, List.set_cons_succ, i64_w, i32_w]
    rfl
  refine pure_ (i := 2) (N := some 8) (v := ?_) (a' := ?_) #[true, true, true, false, false, false, false, false] rfl rfl (any_of HT_.out (by kernel_rfl)) (fun _ _ _ h => h) (Or.inl ⟨by rfl, ?_⟩) ?_ ?_
  rotate_left
  · intro w'
    go_simp
    with_reducible rfl
  rotate_left
  · simp only [Act.put, List.setIfInBounds_toArray, List.set_cons_zero, List.set_cons_succ, i64_w, i32_w]
    rfl
  refine take_ (i := 5) (N := some 11) (v := ?_) (a' := ?_) #[true, true, true, false, false, true, false, false] rfl rfl (take_ofW HT_.out HW_.out (by kernel_rfl)) (fun _ _ _ h => h) (Or.inl ⟨by rfl, ?_⟩) hHeld ?_ ?_
  rotate_left
  · rintro w' ⟨s0, s1, s2, s3⟩
    go_simp
    with_reducible rfl
  rotate_left
  · simp only [Act.put, List.setIfInBounds_toArray, List.set_cons_zero, List.set_cons_succ, i64_w, i32_w]
    rfl
  refine one_ (i := 3) (N := some 9) #[true, true, true, true, false, true, false, false] rfl rfl (one_of HT_.out (by kernel_rfl)) (by decide) (fun K hK => ?_)
  refine goes_ Tryd.func48 (by kernel_rfl) rfl #[.agg #[.string s, .bool b], .int .i64 x] (by rfl) rfl rfl (by (try simp only [List.map_toArray, List.map_cons, List.map_nil]); first | done | rfl) ?_
  refine (impl_turn_after.calls s b x s' b' _ HAV.out).mono ?_
  rintro e wa_ ⟨rfl, hb⟩
  refine ⟨_, rfl, ?_⟩
  have HE2 := Aside0.mk (n1_.out.step hb)
  have HT2 := Aside0.mk (blk_below n2_.out hb)
  have HO2 := Aside0.mk (blk_below n3_.out hb)
  have HW2 := Aside0.mk (below_step HWD.out hb)
  clear hb n1_ n2_ n3_ HWD
  refine hK.out _ _ ⟨(blk_cell HE2.out.hf 0).trans rfl, (blk_cell HT2.out 0).trans rfl, (blk_cell HT2.out 1).trans rfl, (blk_cell HO2.out 0).trans rfl⟩ (fun hHeld => ?_)
  clear hK K
  refine norm_ (a' := ?_) ?_ ?_
  rotate_left
  · show Act.put _ (some 9) _ = _
    simp only [Act.put, List.setIfInBounds_toArray, List.set_cons_zero, List.set_cons_succ, i64_w, i32_w]
    rfl
  refine one_ (i := 4) (N := some 10) #[true, true, true, true, true, true, false, false] rfl rfl (one_of HT_.out (by kernel_rfl)) (by decide) (fun K hK => ?_)
  refine goesF_ (x := .tmp 6) (lb := #[.pointer (some ⟨gK, 0, none⟩), .pointer (some ⟨gX, 0, none⟩), .pointer (some ⟨gF, 0, none⟩)]) eg_find #[.agg #[.string s', .bool b']] (by rfl) rfl rfl rfl (by (try simp only [List.map_toArray, List.map_cons, List.map_nil]); first | done | rfl) ?_
  refine (HIH.out _ HE2.out).mono ?_
  rintro e wb_ ⟨rfl, hE3, hG3⟩
  refine ⟨_, rfl, ?_⟩
  have HE3 := Aside0.mk hE3
  have HT3 := Aside0.mk (blk_grownB HT2.out hG3 HNE.out.1)
  have HO3 := Aside0.mk (blk_grownB HO2.out hG3 HNE.out.2)
  have HG3 := Aside0.mk (grown_after_below HW2.out hG3)
  clear hE3 hG3 HT2 HO2 HE2 HW2
  refine hK.out _ _ ⟨(blk_cell HE3.out.hf 0).trans rfl, (blk_cell HT3.out 0).trans rfl, (blk_cell HT3.out 1).trans rfl, (blk_cell HO3.out 0).trans rfl⟩ (fun hHeld => ?_)
  clear hK K
  refine norm_ (a' := ?_) ?_ ?_
  rotate_left
  · show Act.put _ (some 10) _ = _
    simp only [Act.put, List.setIfInBounds_toArray, List.set_cons_zero, List.set_cons_succ, i64_w, i32_w]
    rfl
  refine pure_ (i := 6) (N := some 12) (v := ?_) (a' := ?_) #[true, true, true, true, true, true, true, false] rfl rfl (any_of HT_.out (by kernel_rfl)) (fun _ _ _ h => h) (Or.inl ⟨by rfl, ?_⟩) ?_ ?_
  rotate_left
  · intro w'
    go_simp
    with_reducible rfl
  rotate_left
  · simp only [Act.put, List.setIfInBounds_toArray, List.set_cons_zero, List.set_cons_succ, i64_w, i32_w]
    rfl
  refine pure_ (i := 7) (N := some 5) (v := ?_) (a' := ?_) #[true, true, true, true, true, true, true, true] rfl rfl (any_of HT_.out (by kernel_rfl)) (fun _ _ _ h => h) (Or.inl ⟨by rfl, ?_⟩) ?_ ?_
  rotate_left
  · intro w'
    go_simp
    with_reducible rfl
  rotate_left
  · simp only [Act.put, List.setIfInBounds_toArray, List.set_cons_zero, List.set_cons_succ, i64_w, i32_w]
    rfl
  refine done_ (done_of HT_.out (by kernel_rfl)) ?_
  go_wp2_with fail
  go_ret
  exact ⟨rfl, HE3.out, HG3.out⟩
/-- What goes on from call to call of the predicate. -/
def WinI (w0 : World) (gK gX gF gm : Nat) (p : Int) (A : Option Addr) (c : Nat) (l : List (List Int)) (d N : Nat) (w1 : World) (i : Nat) (W : World) : Prop := WinEnv w0 gK gX gF gm p A c l (N + i * winCnt (d - 1)) W ∧ w1.grownBy W (some gm)
theorem winI_reads {w0 w w1 : World} {gK gX gF gm : Nat} {p : Int} {A A31 : Option Addr} {c c31 : Nat} {l : List (List Int)} {d N : Nat} {xs : List Int} {i : Nat} {W : World} (ho : Kd.R (Kd.int .i64) 2 w1 w.heap.size (fun _ => True) (.slice A31 xs.length c31) xs) (hgm : gm < w.heap.size)
    (hI : WinI w0 gK gX gF gm p A c l d N w1 i W) : Kd.C (Kd.int .i64) W A31 xs.length xs :=
  (Kd.R_reads' (Kd.R_grown2 ho rfl hI.2 (fun k hk e => by cases hk; have := Kd.R_base ho _ e.symm; omega))).2.2
theorem cnt_step {d i f : Nat} (hi : i < f) (hf : f ≤ d) : i * winCnt (d - 1) + winCnt (d - 1) ≤ winCnt d := by
  cases d with
  | zero => omega
  | succ d =>
    have : (i + 1) * winCnt d ≤ (d + 1) * winCnt d := Nat.mul_le_mul_right _ (by omega)
    have e : (i + 1) * winCnt d = i * winCnt d + winCnt d := Nat.succ_mul _ _
    show i * winCnt d + winCnt d ≤ (d + 1) * winCnt d + 1
    omega
theorem cnt_last {d i f : Nat} (hi : i ≤ f) (hf : f ≤ d) : i * winCnt (d - 1) + 1 ≤ winCnt d := by
  cases d with
  | zero => have : i = 0 := by omega
            subst this; simp [winCnt]
  | succ d =>
    have : i * winCnt d ≤ (d + 1) * winCnt d := Nat.mul_le_mul_right _ (by omega)
    show i * winCnt d + 1 ≤ (d + 1) * winCnt d + 1
    omega
theorem winI_pred (w0 : World) (gK gX gF gm : Nat) (p : Int) (A : Option Addr) (c : Nat) (l : List (List Int)) (d : Nat) (IH : d ≠ 0 → FindDoes w0 gK gX gF gm p A c l (d - 1)) (hl : l.length ≤ 10)
    (gt go : Nat) (s : ByteArray) (b : Bool) (o : Int) (N : Nat) (w1 : World) (hd : (freeV s).length ≤ d) (hs : s.size = l.length) (ht : w1.heap[gt]? = some (.cells #[.string s, .bool b] 64 (0, 0))) (ho : w1.heap[go]? = some (.cells #[.int .i64 o] 2 (0, 0))) (hne : gt ≠ gm ∧ go ≠ gm)
    (hN : N + winCnt d < maxLen) : ∀ i W x, i < (freeV s).length → WinI w0 gK gX gF gm p A c l d N w1 i W → x ∈ freeV s →
      Calls Tryd.prog 67 (#[.int .i64 x] ++ #[.pointer (some ⟨gF, 0, none⟩), .pointer (some ⟨gt, 0, none⟩), .pointer (some ⟨go, 0, none⟩)]) W fun e W' => e = .returned (.bool (netWin l (afterV s x b) (!b) == o)) ∧ WinI w0 gK gX gF gm p A c l d N w1 (i + 1) W' := by
  intro i W x hi hI hx
  have hst := cnt_step hi hd
  have h := winPred w0 gK gX gF gm p A c l (d - 1) (IH (by omega)) hl gt go s b o (N + i * winCnt (d - 1)) W x (blk_grownB ht hI.2 hne.1) (blk_grownB ho hI.2 hne.2) hne hx (by omega) hs hI.1 (by omega)
  refine h.mono ?_
  rintro e W' ⟨rfl, hE, hG⟩
  refine ⟨rfl, ?_, hI.2.trans hG⟩
  have e2 : N + i * winCnt (d - 1) + winCnt (d - 1) = N + (i + 1) * winCnt (d - 1) := by rw [Nat.succ_mul]; omega
  rw [← e2]
  exact hE
theorem wf_small {v : Int} (h0 : 0 ≤ v) (h1 : v ≤ 2) : (Lit.int .i64 v).wf = true := by
  have : v = wrap64 v := by unfold wrap64; omega
  rw [this]; exact wrap64_wf v
theorem bit_ex (b : Bool) : ∃ bv : Int, impl_bit.f b = some bv ∧ ownV b = 2 - bv ∧ 0 ≤ bv ∧ bv ≤ 1 := by
  cases b
  · exact ⟨0, by simp [impl_bit.f], rfl, by omega, by omega⟩
  · exact ⟨1, by simp [impl_bit.f], rfl, by omega, by omega⟩
/-- Behind the last store. -/
theorem find_env {w0 : World} {gK gX gF gm : Nat} {p : Int} {A : Option Addr} {c : Nat} {l : List (List Int)} {N N' n : Nat} {W W' : World} {D : DataW Unit} (h : WinEnv w0 gK gX gF gm p A c l N W) (ho : W'.ownsMap Tryd.prog 64 (plainElem Tryd.prog 2) gm n D) (hm : Memo Tryd.prog 64 (WinF l) D) (hg : W.grownBy W' (some gm)) (hn : n ≤ N') : WinEnv w0 gK gX gF gm p A c l N' W' :=
  ⟨h.below.grown hg h.below.size (fun k hk => by cases hk; exact h.base), blk_grownB h.hk hg h.ne.1.symm, blk_grownB h.hx hg h.ne.2.1.symm, blk_grownB h.hf hg h.ne.2.2.symm, ⟨D, ho.mono hn, hm⟩, h.ne, h.base⟩
set_option maxHeartbeats 8000000 in
set_option maxRecDepth 100000 in
theorem find_step (w0 : World) (gK gX gF gm : Nat) (p : Int) (A : Option Addr) (c : Nat) (l : List (List Int)) (hv : isNetV p l = true) (hr : Kd.C (Kd.slice 2 (Kd.int .i64)) w0 A l.length l) (hc : l.length ≤ c) (d : Nat) (IH : d ≠ 0 → FindDoes w0 gK gX gF gm p A c l (d - 1)) : FindDoes w0 gK gX gF gm p A c l d := by
  intro s b N w hd hs hE hN
  have hl := (netEdges hv).1.1
  have hov : impl_Net_over.f p l s = some (ovV l s) := by unfold impl_Net_over.f; rw [if_pos ⟨hv, hs⟩]
  obtain ⟨D, hown, hmem⟩ := hE.memo
  obtain ⟨kl, hkl⟩ := turnKey s b (by unfold maxLen; omega)
  obtain ⟨bv, hbv, how, hb0, hb1⟩ := bit_ex b
  have hfl : (freeV s).length ≤ s.size := chosenTo_le _ _
  have hfr : impl_turn_open.f s b = some (freeV s) := by unfold impl_turn_open.f; rw [if_pos (by omega)]
  have hwr := netWin_range l s b
  have hor := ovV_range l s
  have hnw := netWin_eq l s b
  have HE := Aside0.mk hE
  have HM := Aside0.mk hown
  have HMM := Aside0.mk hmem
  have HKL := Aside0.mk hkl
  have HBV := Aside0.mk hbv
  have HFL := Aside0.mk (show (freeV s).length ≤ 10 by omega)
  have HFR := Aside0.mk hfr
  have HWR := Aside0.mk hwr
  have HIH := Aside0.mk IH
  have HL10 := Aside0.mk hl
  have HD := Aside0.mk hd
  have HSS := Aside0.mk hs
  have HNB := Aside0.mk hN
  have HCP := Aside0.mk (winCnt_pos d)
  have HR := Aside0.mk hr
  have HC0 := Aside0.mk hc
  have HGM := Aside0.mk (show gm < w.heap.size from hown.lt)
  have HBW := Aside0.mk hE.below
  have HSZ := Aside0.mk hE.below.size
  have HB := Aside0.mk (Below.refl w.heap.size w)
  have HXK := Aside0.mk hE.hk
  have HXX := Aside0.mk hE.hx
  have HXF := Aside0.mk hE.hf
  have hck0 := (blk_cell HXK.out 0).trans rfl
  have hcx0 := (blk_cell HXX.out 0).trans rfl
  have hcx1 := (blk_cell HXX.out 1).trans rfl
  have zeroE : ∀ W : World, (zeroValue 2).run Tryd.prog W = .ok (.int .i64 0) W := fun W => by kernel_rfl
  have hu := Tryd.underlying64
  have hu2 := Tryd.underlying28
  have HOV := Aside0.mk hov
  obtain ⟨hb, hhas⟩ : ∃ hb, Go.Maps.has D kl = hb := ⟨_, rfl⟩
  have HHAS := Aside0.mk hhas
  clear IH hE hown hmem hkl hbv hfl hfr hwr hl hd hs hN hr hc hov hv hhas
  cases hb with
  | true =>
    clear hnw how hb0 hb1 hor
    go_enter Tryd.func64, Tryd.ntmps64
    go_wp2_with (first | ((with_reducible refine gate_dst (N := 4) rfl ?_); refine box_event ?hg (N := 4) ?hd (cs := #[.string s, .bool b]) (t := 64) ?hr ?_; (case hd => rfl); (case hg => rfl); (case hr => first | (go_simp; done) | (go_simp; rfl)); intro g4 hg_ w_ hbox hb; have HX4 := Aside0.mk hbox; have HG4 := Aside0.mk (show w.heap.size ≤ g4 ∧ gK ≠ g4 ∧ gX ≠ g4 ∧ gF ≠ g4 by have := below_size HB.out; have := blk_lt HXK.out; have := blk_lt HXX.out; have := blk_lt HXF.out; omega); (try clear hck0); (try clear hcx0); (try clear hcx1); clear hbox hg_; have nHB_ := Aside0.mk (below_step HB.out hb); have nHXK_ := Aside0.mk (blk_below HXK.out hb); have nHXX_ := Aside0.mk (blk_below HXX.out hb); have nHXF_ := Aside0.mk (blk_below HXF.out hb); have nHM_ := Aside0.mk (HM.out.kept (grown_of_below hb none) (by simp)); clear HB HXK HXX HXF HM hb; have HB := nHB_; have HXK := nHXK_; have HXX := nHXX_; have HXF := nHXF_; have HM := nHM_; clear nHB_ nHXK_ nHXX_ nHXF_ nHM_; have hck0 := (blk_cell HXK.out 0).trans rfl; have hcx0 := (blk_cell HXX.out 0).trans rfl; have hcx1 := (blk_cell HXX.out 1).trans rfl; have hc40 := (blk_cell HX4.out 0).trans rfl; have hc41 := (blk_cell HX4.out 1).trans rfl; have HGM4 := Aside0.mk (show g4 ≠ gm by have := HGM.out; have := HG4.out; omega)) | (at_lookup; refine wpList_lookup_own_ok_int _ rfl _ _ 86 rfl 64 2 .i64 turnKeyed Tryd.underlying86 Tryd.underlying2 (zeroE _) gm N D rfl HM.out _ kl rfl HKL.out ?_; intro c1 hat hwc; have HAT := Aside0.mk hat; clear hat hwc; rw [HHAS.out]))
    have hc1 : c1 = netWin l s b := HMM.out _ kl c1 HKL.out HHAS.out HAT.out s b rfl
    go_ret
    exact ⟨by rw [hc1]; rfl, (HE.out.step HB.out).mono (by omega), grown_of_below HB.out _⟩
  | false =>
    generalize hov2 : ovV l s = ov at HOV hnw hor
    by_cases ho : ov = 0
    case neg =>
      have hoz : (ov == 0) = false := beq_eq_false_iff_ne.mpr ho
      rw [if_neg ho] at hnw
      have HNW := Aside0.mk hnw
      have HOR := Aside0.mk hor
      clear hnw how hb0 hb1 ho hov2 hor
      go_enter Tryd.func64, Tryd.ntmps64
      go_wp2_with (first | ((with_reducible refine gate_dst (N := 4) rfl ?_); refine box_event ?hg (N := 4) ?hd (cs := #[.string s, .bool b]) (t := 64) ?hr ?_; (case hd => rfl); (case hg => rfl); (case hr => first | (go_simp; done) | (go_simp; rfl)); intro g4 hg_ w_ hbox hb; have HX4 := Aside0.mk hbox; have HG4 := Aside0.mk (show w.heap.size ≤ g4 ∧ gK ≠ g4 ∧ gX ≠ g4 ∧ gF ≠ g4 by have := below_size HB.out; have := blk_lt HXK.out; have := blk_lt HXX.out; have := blk_lt HXF.out; omega); (try clear hck0); (try clear hcx0); (try clear hcx1); clear hbox hg_; have nHB_ := Aside0.mk (below_step HB.out hb); have nHXK_ := Aside0.mk (blk_below HXK.out hb); have nHXX_ := Aside0.mk (blk_below HXX.out hb); have nHXF_ := Aside0.mk (blk_below HXF.out hb); have nHM_ := Aside0.mk (HM.out.kept (grown_of_below hb none) (by simp)); clear HB HXK HXX HXF HM hb; have HB := nHB_; have HXK := nHXK_; have HXX := nHXX_; have HXF := nHXF_; have HM := nHM_; clear nHB_ nHXK_ nHXX_ nHXF_ nHM_; have hck0 := (blk_cell HXK.out 0).trans rfl; have hcx0 := (blk_cell HXX.out 0).trans rfl; have hcx1 := (blk_cell HXX.out 1).trans rfl; have hc40 := (blk_cell HX4.out 0).trans rfl; have hc41 := (blk_cell HX4.out 1).trans rfl; have HGM4 := Aside0.mk (show g4 ≠ gm by have := HGM.out; have := HG4.out; omega)) | (at_lookup; refine wpList_lookup_own_ok_int _ rfl _ _ 86 rfl 64 2 .i64 turnKeyed Tryd.underlying86 Tryd.underlying2 (zeroE _) gm N D rfl HM.out _ kl rfl HKL.out ?_; intro c1 hat hwc; have HAT := Aside0.mk hat; clear hat hwc; rw [HHAS.out]) | (go_at_call 36; refine (impl_Net_over.calls p A c l s ov _ (Kd.C_below HR.out (below_step HBW.out HB.out)) HC0.out HOV.out).mono ?_; rintro e w_ ⟨rfl, hb⟩; (try clear hck0); (try clear hcx0); (try clear hcx1); (try clear hc40); (try clear hc41); have nHB_ := Aside0.mk (below_step HB.out hb); have nHXK_ := Aside0.mk (blk_below HXK.out hb); have nHXX_ := Aside0.mk (blk_below HXX.out hb); have nHXF_ := Aside0.mk (blk_below HXF.out hb); have nHM_ := Aside0.mk (HM.out.kept (grown_of_below hb none) (by simp)); have nHX4_ := Aside0.mk (blk_below HX4.out hb); clear HB HXK HXX HXF HM HX4 hb; have HB := nHB_; have HXK := nHXK_; have HXX := nHXX_; have HXF := nHXF_; have HM := nHM_; have HX4 := nHX4_; clear nHB_ nHXK_ nHXX_ nHXF_ nHM_ nHX4_; have hck0 := (blk_cell HXK.out 0).trans rfl; have hcx0 := (blk_cell HXX.out 0).trans rfl; have hcx1 := (blk_cell HXX.out 1).trans rfl; have hc40 := (blk_cell HX4.out 0).trans rfl; have hc41 := (blk_cell HX4.out 1).trans rfl) | (at_mapUpdate; refine wpList_mapUpdate_own _ rfl _ _ _ 86 rfl 64 2 turnKeyed Tryd.underlying86 _ gm (N) _ rfl HM.out (by have := HNB.out; have := HCP.out; omega) _ _ kl rfl rfl HKL.out _ [] (plainElem_int Tryd.underlying2 (wf_small HOR.out.1 HOR.out.2)) ?_; intro w4_ hown4 hg4_; have HW4 := Aside0.mk hown4; have HG4_ := Aside0.mk hg4_; clear hown4 hg4_))
      go_ret
      exact ⟨by rw [HNW.out]; rfl, find_env (HE.out.step HB.out) HW4.out (HMM.out.put turnKeyed (HM.out.isMap) HKL.out (fun s' b' e => by injection e with e; injection e with e; simp only [List.cons.injEq, Value.string.injEq, Value.bool.injEq, and_true] at e; obtain ⟨rfl, rfl⟩ := e; exact HNW.out.symm)) HG4_.out (by have := HCP.out; omega), grown_after_below HB.out HG4_.out⟩
    case pos =>
      have hoz : (ov == 0) = true := beq_iff_eq.mpr ho
      rw [if_pos ho] at hnw
      obtain ⟨ow, hoe⟩ : ∃ ow : Int, ow = 2 - bv := ⟨_, rfl⟩
      rw [how, ← hoe] at hnw
      have HOW := Aside0.mk hoe
      have ho1 : 1 ≤ ow := by omega
      have ho2 : ow ≤ 2 := by omega
      obtain ⟨an, han⟩ : ∃ an, (freeV s).any (fun k => netWin l (afterV s k b) (!b) == ow) = an := ⟨_, rfl⟩
      rw [han] at hnw
      have HANY := Aside0.mk han
      have HNW := Aside0.mk hnw
      clear ho hov2 how hoe han hnw hor
      cases an with
      | true =>
        go_enter Tryd.func64, Tryd.ntmps64
        go_wp2_with (first | ((with_reducible refine gate_dst (N := 4) rfl ?_); refine box_event ?hg (N := 4) ?hd (cs := #[.string s, .bool b]) (t := 64) ?hr ?_; (case hd => rfl); (case hg => rfl); (case hr => first | (go_simp; done) | (go_simp; rfl)); intro g4 hg_ w_ hbox hb; have HX4 := Aside0.mk hbox; have HG4 := Aside0.mk (show w.heap.size ≤ g4 ∧ gK ≠ g4 ∧ gX ≠ g4 ∧ gF ≠ g4 by have := below_size HB.out; have := blk_lt HXK.out; have := blk_lt HXX.out; have := blk_lt HXF.out; omega); (try clear hck0); (try clear hcx0); (try clear hcx1); clear hbox hg_; have nHB_ := Aside0.mk (below_step HB.out hb); have nHXK_ := Aside0.mk (blk_below HXK.out hb); have nHXX_ := Aside0.mk (blk_below HXX.out hb); have nHXF_ := Aside0.mk (blk_below HXF.out hb); have nHM_ := Aside0.mk (HM.out.kept (grown_of_below hb none) (by simp)); clear HB HXK HXX HXF HM hb; have HB := nHB_; have HXK := nHXK_; have HXX := nHXX_; have HXF := nHXF_; have HM := nHM_; clear nHB_ nHXK_ nHXX_ nHXF_ nHM_; have hck0 := (blk_cell HXK.out 0).trans rfl; have hcx0 := (blk_cell HXX.out 0).trans rfl; have hcx1 := (blk_cell HXX.out 1).trans rfl; have hc40 := (blk_cell HX4.out 0).trans rfl; have hc41 := (blk_cell HX4.out 1).trans rfl; have HGM4 := Aside0.mk (show g4 ≠ gm by have := HGM.out; have := HG4.out; omega)) | (at_lookup; refine wpList_lookup_own_ok_int _ rfl _ _ 86 rfl 64 2 .i64 turnKeyed Tryd.underlying86 Tryd.underlying2 (zeroE _) gm N D rfl HM.out _ kl rfl HKL.out ?_; intro c1 hat hwc; have HAT := Aside0.mk hat; clear hat hwc; rw [HHAS.out]) | (go_at_call 36; refine (impl_Net_over.calls p A c l s ov _ (Kd.C_below HR.out (below_step HBW.out HB.out)) HC0.out HOV.out).mono ?_; rintro e w_ ⟨rfl, hb⟩; (try clear hck0); (try clear hcx0); (try clear hcx1); (try clear hc40); (try clear hc41); have nHB_ := Aside0.mk (below_step HB.out hb); have nHXK_ := Aside0.mk (blk_below HXK.out hb); have nHXX_ := Aside0.mk (blk_below HXX.out hb); have nHXF_ := Aside0.mk (blk_below HXF.out hb); have nHM_ := Aside0.mk (HM.out.kept (grown_of_below hb none) (by simp)); have nHX4_ := Aside0.mk (blk_below HX4.out hb); clear HB HXK HXX HXF HM HX4 hb; have HB := nHB_; have HXK := nHXK_; have HXX := nHXX_; have HXF := nHXF_; have HM := nHM_; have HX4 := nHX4_; clear nHB_ nHXK_ nHXX_ nHXF_ nHM_ nHX4_; have hck0 := (blk_cell HXK.out 0).trans rfl; have hcx0 := (blk_cell HXX.out 0).trans rfl; have hcx1 := (blk_cell HXX.out 1).trans rfl; have hc40 := (blk_cell HX4.out 0).trans rfl; have hc41 := (blk_cell HX4.out 1).trans rfl) | (go_at_call 65; refine (impl_bit.calls b bv _ HBV.out).mono ?_; rintro e w_ ⟨rfl, hd⟩; have hb := hd.below; clear hd; (try clear hck0); (try clear hcx0); (try clear hcx1); (try clear hc40); (try clear hc41); have nHB_ := Aside0.mk (below_step HB.out hb); have nHXK_ := Aside0.mk (blk_below HXK.out hb); have nHXX_ := Aside0.mk (blk_below HXX.out hb); have nHXF_ := Aside0.mk (blk_below HXF.out hb); have nHM_ := Aside0.mk (HM.out.kept (grown_of_below hb none) (by simp)); have nHX4_ := Aside0.mk (blk_below HX4.out hb); clear HB HXK HXX HXF HM HX4 hb; have HB := nHB_; have HXK := nHXK_; have HXX := nHXX_; have HXF := nHXF_; have HM := nHM_; have HX4 := nHX4_; clear nHB_ nHXK_ nHXX_ nHXF_ nHM_ nHX4_; have hck0 := (blk_cell HXK.out 0).trans rfl; have hcx0 := (blk_cell HXX.out 0).trans rfl; have hcx1 := (blk_cell HXX.out 1).trans rfl; have hc40 := (blk_cell HX4.out 0).trans rfl; have hc41 := (blk_cell HX4.out 1).trans rfl) | ((with_reducible refine gate_dst (N := 9) rfl ?_); refine box_event ?hg (N := 9) ?hd (cs := #[.int .i64 0]) (t := 2) ?hr ?_; (case hd => rfl); (case hg => rfl); (case hr => first | (go_simp; done) | (go_simp; rfl)); intro g9 hg_ w_ hbox hb; have HX9 := Aside0.mk hbox; have HG9 := Aside0.mk (show w.heap.size ≤ g9 ∧ gm < w.heap.size ∧ gK ≠ g9 ∧ gX ≠ g9 ∧ gF ≠ g9 ∧ g4 ≠ g9 by have := below_size HB.out; have := HGM.out; have := blk_lt HXK.out; have := blk_lt HXX.out; have := blk_lt HXF.out; have := blk_lt HX4.out; omega); (try clear hck0); (try clear hcx0); (try clear hcx1); (try clear hc40); (try clear hc41); clear hbox hg_; have nHB_ := Aside0.mk (below_step HB.out hb); have nHXK_ := Aside0.mk (blk_below HXK.out hb); have nHXX_ := Aside0.mk (blk_below HXX.out hb); have nHXF_ := Aside0.mk (blk_below HXF.out hb); have nHM_ := Aside0.mk (HM.out.kept (grown_of_below hb none) (by simp)); have nHX4_ := Aside0.mk (blk_below HX4.out hb); clear HB HXK HXX HXF HM HX4 hb; have HB := nHB_; have HXK := nHXK_; have HXX := nHXX_; have HXF := nHXF_; have HM := nHM_; have HX4 := nHX4_; clear nHB_ nHXK_ nHXX_ nHXF_ nHM_ nHX4_; have hck0 := (blk_cell HXK.out 0).trans rfl; have hcx0 := (blk_cell HXX.out 0).trans rfl; have hcx1 := (blk_cell HXX.out 1).trans rfl; have hc40 := (blk_cell HX4.out 0).trans rfl; have hc41 := (blk_cell HX4.out 1).trans rfl; have hc90 := (blk_cell HX9.out 0).trans rfl; have HGM9 := Aside0.mk (show gm ≠ g9 by have := HGM.out; have := HG9.out; omega)) | ((with_reducible refine gate_store (t := 2) (p := 9) rfl ?_); have hfz_ := blk_frozen HX9.out 0; refine store_event (t := 2) (p := 9) (v := .tmp 27) (w1 := (w_.setCell ⟨g9, 0, none⟩ (.int .i64 (2 - bv)))) ?hg ?ho ?hn ?hr ?_; (case ho => rfl); (case hg => rfl); (case hn => rfl); (case hr => first | (go_simp; done) | (go_simp; rfl)); intro w2_ hw_; clear hfz_; have nHB_ := Aside0.mk ((below_set HB.out HG9.out.1 : Below w.heap.size w (w_.setCell ⟨g9, 0, none⟩ (.int .i64 (2 - bv))))); have nHXK_ := Aside0.mk (blk_far (p := ⟨g9, 0, none⟩) HXK.out (show gK ≠ g9 by have := HG9.out; omega) (.int .i64 (2 - bv))); have nHXX_ := Aside0.mk (blk_far (p := ⟨g9, 0, none⟩) HXX.out (show gX ≠ g9 by have := HG9.out; omega) (.int .i64 (2 - bv))); have nHXF_ := Aside0.mk (blk_far (p := ⟨g9, 0, none⟩) HXF.out (show gF ≠ g9 by have := HG9.out; omega) (.int .i64 (2 - bv))); have nHM_ := Aside0.mk (HM.out.setCell (a := ⟨g9, 0, none⟩) (show gm ≠ g9 by have := HG9.out; omega) (.int .i64 (2 - bv))); have nHX4_ := Aside0.mk (blk_far (p := ⟨g9, 0, none⟩) HX4.out (show g4 ≠ g9 by have := HG9.out; omega) (.int .i64 (2 - bv))); have nHX9_ := Aside0.mk (blk_put HX9.out 0 (.int .i64 (2 - bv)) rfl); replace nHB_ := nHB_.out; rw [← hw_] at nHB_; replace nHXK_ := nHXK_.out; rw [← hw_] at nHXK_; replace nHXX_ := nHXX_.out; rw [← hw_] at nHXX_; replace nHXF_ := nHXF_.out; rw [← hw_] at nHXF_; replace nHM_ := nHM_.out; rw [← hw_] at nHM_; replace nHX4_ := nHX4_.out; rw [← hw_] at nHX4_; replace nHX9_ := nHX9_.out; rw [← hw_] at nHX9_; (try clear hck0); (try clear hcx0); (try clear hcx1); (try clear hc40); (try clear hc41); (try clear hc90); clear hw_ HB HXK HXX HXF HM HX4 HX9; have HB := Aside0.mk nHB_; have HXK := Aside0.mk nHXK_; have HXX := Aside0.mk nHXX_; have HXF := Aside0.mk nHXF_; have HM := Aside0.mk nHM_; have HX4 := Aside0.mk nHX4_; have HX9 := Aside0.mk nHX9_; clear nHB_ nHXK_ nHXX_ nHXF_ nHM_ nHX4_ nHX9_; have hck0 := (blk_cell HXK.out 0).trans rfl; have hcx0 := (blk_cell HXX.out 0).trans rfl; have hcx1 := (blk_cell HXX.out 1).trans rfl; have hc40 := (blk_cell HX4.out 0).trans rfl; have hc41 := (blk_cell HX4.out 1).trans rfl; have hc90 := (blk_cell HX9.out 0).trans rfl; have t_ := HX9.out; rw [← HOW.out] at t_; clear HX9 hc90; have HX9 := Aside0.mk t_; clear t_; have hc90 := (blk_cell HX9.out 0).trans rfl; clear hb0 hb1) | (go_at_call 49; refine (impl_turn_open.calls s b (freeV s) _ HFR.out).mono ?_; rintro e w_ ⟨v31, rfl, ho, hb⟩; obtain ⟨A31, c31, e31⟩ := Kd.R_slice ho; subst e31; have HO := Aside0.mk (Kd.R_lower ho (below_size HB.out)); clear ho; (try clear hck0); (try clear hcx0); (try clear hcx1); (try clear hc40); (try clear hc41); (try clear hc90); have nHB_ := Aside0.mk (below_step HB.out hb); have nHXK_ := Aside0.mk (blk_below HXK.out hb); have nHXX_ := Aside0.mk (blk_below HXX.out hb); have nHXF_ := Aside0.mk (blk_below HXF.out hb); have nHM_ := Aside0.mk (HM.out.kept (grown_of_below hb none) (by simp)); have nHX4_ := Aside0.mk (blk_below HX4.out hb); have nHX9_ := Aside0.mk (blk_below HX9.out hb); clear HB HXK HXX HXF HM HX4 HX9 hb; have HB := nHB_; have HXK := nHXK_; have HXX := nHXX_; have HXF := nHXF_; have HM := nHM_; have HX4 := nHX4_; have HX9 := nHX9_; clear nHB_ nHXK_ nHXX_ nHXF_ nHM_ nHX4_ nHX9_; have hck0 := (blk_cell HXK.out 0).trans rfl; have hcx0 := (blk_cell HXX.out 0).trans rfl; have hcx1 := (blk_cell HXX.out 1).trans rfl; have hc40 := (blk_cell HX4.out 0).trans rfl; have hc41 := (blk_cell HX4.out 1).trans rfl; have hc90 := (blk_cell HX9.out 0).trans rfl) | (go_at_call 66; have HE1 := Aside0.mk (WinEnv.step HE.out HB.out); refine (slices_ContainsFunc_int64_int64_66.callsI 67 _ (fun k => netWin l (afterV s k b) (!b) == ow) eg_wpred (WinI w0 gK gX gF gm p A c l d N w_) A31 c31 (freeV s) _ ⟨HE1.out.mono (Nat.le_add_right _ _), grown_refl_some _ _⟩ (winI_pred w0 gK gX gF gm p A c l d HIH.out HL10.out g4 g9 s b ow N _ (HD.out) HSS.out HX4.out HX9.out (by have := HGM.out; have := HG4.out; have := HG9.out; omega) HNB.out) (fun i W hI => winI_reads HO.out HGM.out hI) (by have := HFL.out; omega)).mono ?_; rintro e w3_ ⟨rfl, i, hi, hE3, hG3⟩; rw [HANY.out]; have HE3 := Aside0.mk hE3; have HG3_ := Aside0.mk hG3; have HII := Aside0.mk hi; have HG4B := Aside0.mk (blk_grownB HX4.out hG3 (by have := HGM.out; have := HG4.out; omega)); have HG9B := Aside0.mk (blk_grownB HX9.out hG3 (by have := HGM.out; have := HG9.out; omega)); have HB3 := Aside0.mk (grown_after_below HB.out hG3); obtain ⟨D2, hown2, hmem2⟩ := hE3.memo; have HM2 := Aside0.mk hown2; have HMM2 := Aside0.mk hmem2; (try clear hck0); (try clear hcx0); (try clear hcx1); (try clear hc40); (try clear hc41); (try clear hc90); clear hE3 hG3 hi hown2 hmem2 HM HX4 HX9 HXK HXX HXF; have hck0 := (blk_cell HE3.out.hk 0).trans rfl; have hc40 := (blk_cell HG4B.out 0).trans rfl; have hc41 := (blk_cell HG4B.out 1).trans rfl; have hc90 := (blk_cell HG9B.out 0).trans rfl) | (at_mapUpdate; refine wpList_mapUpdate_own _ rfl _ _ _ 86 rfl 64 2 turnKeyed Tryd.underlying86 _ gm (N + i * winCnt (d - 1)) _ rfl HM2.out (by have := HNB.out; have := HCP.out; have := cnt_last HII.out HD.out; omega) _ _ kl rfl rfl HKL.out _ [] (plainElem_int Tryd.underlying2 (wf_small (v := ow) (by omega) (by omega))) ?_; intro w4_ hown4 hg4_; have HW4 := Aside0.mk hown4; have HG4_ := Aside0.mk hg4_; clear hown4 hg4_))
        go_ret
        exact ⟨by rw [HNW.out]; rfl, find_env HE3.out HW4.out (HMM2.out.put turnKeyed (HM2.out.isMap) HKL.out (fun s' b' e => by injection e with e; injection e with e; simp only [List.cons.injEq, Value.string.injEq, Value.bool.injEq, and_true] at e; obtain ⟨rfl, rfl⟩ := e; rw [HNW.out]; rfl)) HG4_.out (by have := cnt_last HII.out HD.out; omega), HB3.out.trans HG4_.out⟩
      | false =>
        go_enter Tryd.func64, Tryd.ntmps64
        go_wp2_with (first | ((with_reducible refine gate_dst (N := 4) rfl ?_); refine box_event ?hg (N := 4) ?hd (cs := #[.string s, .bool b]) (t := 64) ?hr ?_; (case hd => rfl); (case hg => rfl); (case hr => first | (go_simp; done) | (go_simp; rfl)); intro g4 hg_ w_ hbox hb; have HX4 := Aside0.mk hbox; have HG4 := Aside0.mk (show w.heap.size ≤ g4 ∧ gK ≠ g4 ∧ gX ≠ g4 ∧ gF ≠ g4 by have := below_size HB.out; have := blk_lt HXK.out; have := blk_lt HXX.out; have := blk_lt HXF.out; omega); (try clear hck0); (try clear hcx0); (try clear hcx1); clear hbox hg_; have nHB_ := Aside0.mk (below_step HB.out hb); have nHXK_ := Aside0.mk (blk_below HXK.out hb); have nHXX_ := Aside0.mk (blk_below HXX.out hb); have nHXF_ := Aside0.mk (blk_below HXF.out hb); have nHM_ := Aside0.mk (HM.out.kept (grown_of_below hb none) (by simp)); clear HB HXK HXX HXF HM hb; have HB := nHB_; have HXK := nHXK_; have HXX := nHXX_; have HXF := nHXF_; have HM := nHM_; clear nHB_ nHXK_ nHXX_ nHXF_ nHM_; have hck0 := (blk_cell HXK.out 0).trans rfl; have hcx0 := (blk_cell HXX.out 0).trans rfl; have hcx1 := (blk_cell HXX.out 1).trans rfl; have hc40 := (blk_cell HX4.out 0).trans rfl; have hc41 := (blk_cell HX4.out 1).trans rfl; have HGM4 := Aside0.mk (show g4 ≠ gm by have := HGM.out; have := HG4.out; omega)) | (at_lookup; refine wpList_lookup_own_ok_int _ rfl _ _ 86 rfl 64 2 .i64 turnKeyed Tryd.underlying86 Tryd.underlying2 (zeroE _) gm N D rfl HM.out _ kl rfl HKL.out ?_; intro c1 hat hwc; have HAT := Aside0.mk hat; clear hat hwc; rw [HHAS.out]) | (go_at_call 36; refine (impl_Net_over.calls p A c l s ov _ (Kd.C_below HR.out (below_step HBW.out HB.out)) HC0.out HOV.out).mono ?_; rintro e w_ ⟨rfl, hb⟩; (try clear hck0); (try clear hcx0); (try clear hcx1); (try clear hc40); (try clear hc41); have nHB_ := Aside0.mk (below_step HB.out hb); have nHXK_ := Aside0.mk (blk_below HXK.out hb); have nHXX_ := Aside0.mk (blk_below HXX.out hb); have nHXF_ := Aside0.mk (blk_below HXF.out hb); have nHM_ := Aside0.mk (HM.out.kept (grown_of_below hb none) (by simp)); have nHX4_ := Aside0.mk (blk_below HX4.out hb); clear HB HXK HXX HXF HM HX4 hb; have HB := nHB_; have HXK := nHXK_; have HXX := nHXX_; have HXF := nHXF_; have HM := nHM_; have HX4 := nHX4_; clear nHB_ nHXK_ nHXX_ nHXF_ nHM_ nHX4_; have hck0 := (blk_cell HXK.out 0).trans rfl; have hcx0 := (blk_cell HXX.out 0).trans rfl; have hcx1 := (blk_cell HXX.out 1).trans rfl; have hc40 := (blk_cell HX4.out 0).trans rfl; have hc41 := (blk_cell HX4.out 1).trans rfl) | (go_at_call 65; refine (impl_bit.calls b bv _ HBV.out).mono ?_; rintro e w_ ⟨rfl, hd⟩; have hb := hd.below; clear hd; (try clear hck0); (try clear hcx0); (try clear hcx1); (try clear hc40); (try clear hc41); have nHB_ := Aside0.mk (below_step HB.out hb); have nHXK_ := Aside0.mk (blk_below HXK.out hb); have nHXX_ := Aside0.mk (blk_below HXX.out hb); have nHXF_ := Aside0.mk (blk_below HXF.out hb); have nHM_ := Aside0.mk (HM.out.kept (grown_of_below hb none) (by simp)); have nHX4_ := Aside0.mk (blk_below HX4.out hb); clear HB HXK HXX HXF HM HX4 hb; have HB := nHB_; have HXK := nHXK_; have HXX := nHXX_; have HXF := nHXF_; have HM := nHM_; have HX4 := nHX4_; clear nHB_ nHXK_ nHXX_ nHXF_ nHM_ nHX4_; have hck0 := (blk_cell HXK.out 0).trans rfl; have hcx0 := (blk_cell HXX.out 0).trans rfl; have hcx1 := (blk_cell HXX.out 1).trans rfl; have hc40 := (blk_cell HX4.out 0).trans rfl; have hc41 := (blk_cell HX4.out 1).trans rfl) | ((with_reducible refine gate_dst (N := 9) rfl ?_); refine box_event ?hg (N := 9) ?hd (cs := #[.int .i64 0]) (t := 2) ?hr ?_; (case hd => rfl); (case hg => rfl); (case hr => first | (go_simp; done) | (go_simp; rfl)); intro g9 hg_ w_ hbox hb; have HX9 := Aside0.mk hbox; have HG9 := Aside0.mk (show w.heap.size ≤ g9 ∧ gm < w.heap.size ∧ gK ≠ g9 ∧ gX ≠ g9 ∧ gF ≠ g9 ∧ g4 ≠ g9 by have := below_size HB.out; have := HGM.out; have := blk_lt HXK.out; have := blk_lt HXX.out; have := blk_lt HXF.out; have := blk_lt HX4.out; omega); (try clear hck0); (try clear hcx0); (try clear hcx1); (try clear hc40); (try clear hc41); clear hbox hg_; have nHB_ := Aside0.mk (below_step HB.out hb); have nHXK_ := Aside0.mk (blk_below HXK.out hb); have nHXX_ := Aside0.mk (blk_below HXX.out hb); have nHXF_ := Aside0.mk (blk_below HXF.out hb); have nHM_ := Aside0.mk (HM.out.kept (grown_of_below hb none) (by simp)); have nHX4_ := Aside0.mk (blk_below HX4.out hb); clear HB HXK HXX HXF HM HX4 hb; have HB := nHB_; have HXK := nHXK_; have HXX := nHXX_; have HXF := nHXF_; have HM := nHM_; have HX4 := nHX4_; clear nHB_ nHXK_ nHXX_ nHXF_ nHM_ nHX4_; have hck0 := (blk_cell HXK.out 0).trans rfl; have hcx0 := (blk_cell HXX.out 0).trans rfl; have hcx1 := (blk_cell HXX.out 1).trans rfl; have hc40 := (blk_cell HX4.out 0).trans rfl; have hc41 := (blk_cell HX4.out 1).trans rfl; have hc90 := (blk_cell HX9.out 0).trans rfl; have HGM9 := Aside0.mk (show gm ≠ g9 by have := HGM.out; have := HG9.out; omega)) | ((with_reducible refine gate_store (t := 2) (p := 9) rfl ?_); have hfz_ := blk_frozen HX9.out 0; refine store_event (t := 2) (p := 9) (v := .tmp 27) (w1 := (w_.setCell ⟨g9, 0, none⟩ (.int .i64 (2 - bv)))) ?hg ?ho ?hn ?hr ?_; (case ho => rfl); (case hg => rfl); (case hn => rfl); (case hr => first | (go_simp; done) | (go_simp; rfl)); intro w2_ hw_; clear hfz_; have nHB_ := Aside0.mk ((below_set HB.out HG9.out.1 : Below w.heap.size w (w_.setCell ⟨g9, 0, none⟩ (.int .i64 (2 - bv))))); have nHXK_ := Aside0.mk (blk_far (p := ⟨g9, 0, none⟩) HXK.out (show gK ≠ g9 by have := HG9.out; omega) (.int .i64 (2 - bv))); have nHXX_ := Aside0.mk (blk_far (p := ⟨g9, 0, none⟩) HXX.out (show gX ≠ g9 by have := HG9.out; omega) (.int .i64 (2 - bv))); have nHXF_ := Aside0.mk (blk_far (p := ⟨g9, 0, none⟩) HXF.out (show gF ≠ g9 by have := HG9.out; omega) (.int .i64 (2 - bv))); have nHM_ := Aside0.mk (HM.out.setCell (a := ⟨g9, 0, none⟩) (show gm ≠ g9 by have := HG9.out; omega) (.int .i64 (2 - bv))); have nHX4_ := Aside0.mk (blk_far (p := ⟨g9, 0, none⟩) HX4.out (show g4 ≠ g9 by have := HG9.out; omega) (.int .i64 (2 - bv))); have nHX9_ := Aside0.mk (blk_put HX9.out 0 (.int .i64 (2 - bv)) rfl); replace nHB_ := nHB_.out; rw [← hw_] at nHB_; replace nHXK_ := nHXK_.out; rw [← hw_] at nHXK_; replace nHXX_ := nHXX_.out; rw [← hw_] at nHXX_; replace nHXF_ := nHXF_.out; rw [← hw_] at nHXF_; replace nHM_ := nHM_.out; rw [← hw_] at nHM_; replace nHX4_ := nHX4_.out; rw [← hw_] at nHX4_; replace nHX9_ := nHX9_.out; rw [← hw_] at nHX9_; (try clear hck0); (try clear hcx0); (try clear hcx1); (try clear hc40); (try clear hc41); (try clear hc90); clear hw_ HB HXK HXX HXF HM HX4 HX9; have HB := Aside0.mk nHB_; have HXK := Aside0.mk nHXK_; have HXX := Aside0.mk nHXX_; have HXF := Aside0.mk nHXF_; have HM := Aside0.mk nHM_; have HX4 := Aside0.mk nHX4_; have HX9 := Aside0.mk nHX9_; clear nHB_ nHXK_ nHXX_ nHXF_ nHM_ nHX4_ nHX9_; have hck0 := (blk_cell HXK.out 0).trans rfl; have hcx0 := (blk_cell HXX.out 0).trans rfl; have hcx1 := (blk_cell HXX.out 1).trans rfl; have hc40 := (blk_cell HX4.out 0).trans rfl; have hc41 := (blk_cell HX4.out 1).trans rfl; have hc90 := (blk_cell HX9.out 0).trans rfl; have t_ := HX9.out; rw [← HOW.out] at t_; clear HX9 hc90; have HX9 := Aside0.mk t_; clear t_; have hc90 := (blk_cell HX9.out 0).trans rfl; clear hb0 hb1) | (go_at_call 49; refine (impl_turn_open.calls s b (freeV s) _ HFR.out).mono ?_; rintro e w_ ⟨v31, rfl, ho, hb⟩; obtain ⟨A31, c31, e31⟩ := Kd.R_slice ho; subst e31; have HO := Aside0.mk (Kd.R_lower ho (below_size HB.out)); clear ho; (try clear hck0); (try clear hcx0); (try clear hcx1); (try clear hc40); (try clear hc41); (try clear hc90); have nHB_ := Aside0.mk (below_step HB.out hb); have nHXK_ := Aside0.mk (blk_below HXK.out hb); have nHXX_ := Aside0.mk (blk_below HXX.out hb); have nHXF_ := Aside0.mk (blk_below HXF.out hb); have nHM_ := Aside0.mk (HM.out.kept (grown_of_below hb none) (by simp)); have nHX4_ := Aside0.mk (blk_below HX4.out hb); have nHX9_ := Aside0.mk (blk_below HX9.out hb); clear HB HXK HXX HXF HM HX4 HX9 hb; have HB := nHB_; have HXK := nHXK_; have HXX := nHXX_; have HXF := nHXF_; have HM := nHM_; have HX4 := nHX4_; have HX9 := nHX9_; clear nHB_ nHXK_ nHXX_ nHXF_ nHM_ nHX4_ nHX9_; have hck0 := (blk_cell HXK.out 0).trans rfl; have hcx0 := (blk_cell HXX.out 0).trans rfl; have hcx1 := (blk_cell HXX.out 1).trans rfl; have hc40 := (blk_cell HX4.out 0).trans rfl; have hc41 := (blk_cell HX4.out 1).trans rfl; have hc90 := (blk_cell HX9.out 0).trans rfl) | (go_at_call 66; have HE1 := Aside0.mk (WinEnv.step HE.out HB.out); refine (slices_ContainsFunc_int64_int64_66.callsI 67 _ (fun k => netWin l (afterV s k b) (!b) == ow) eg_wpred (WinI w0 gK gX gF gm p A c l d N w_) A31 c31 (freeV s) _ ⟨HE1.out.mono (Nat.le_add_right _ _), grown_refl_some _ _⟩ (winI_pred w0 gK gX gF gm p A c l d HIH.out HL10.out g4 g9 s b ow N _ (HD.out) HSS.out HX4.out HX9.out (by have := HGM.out; have := HG4.out; have := HG9.out; omega) HNB.out) (fun i W hI => winI_reads HO.out HGM.out hI) (by have := HFL.out; omega)).mono ?_; rintro e w3_ ⟨rfl, i, hi, hE3, hG3⟩; rw [HANY.out]; have HE3 := Aside0.mk hE3; have HG3_ := Aside0.mk hG3; have HII := Aside0.mk hi; have HG4B := Aside0.mk (blk_grownB HX4.out hG3 (by have := HGM.out; have := HG4.out; omega)); have HG9B := Aside0.mk (blk_grownB HX9.out hG3 (by have := HGM.out; have := HG9.out; omega)); have HB3 := Aside0.mk (grown_after_below HB.out hG3); obtain ⟨D2, hown2, hmem2⟩ := hE3.memo; have HM2 := Aside0.mk hown2; have HMM2 := Aside0.mk hmem2; (try clear hck0); (try clear hcx0); (try clear hcx1); (try clear hc40); (try clear hc41); (try clear hc90); clear hE3 hG3 hi hown2 hmem2 HM HX4 HX9 HXK HXX HXF; have hck0 := (blk_cell HE3.out.hk 0).trans rfl; have hc40 := (blk_cell HG4B.out 0).trans rfl; have hc41 := (blk_cell HG4B.out 1).trans rfl; have hc90 := (blk_cell HG9B.out 0).trans rfl) | (at_mapUpdate; refine wpList_mapUpdate_own _ rfl _ _ _ 86 rfl 64 2 turnKeyed Tryd.underlying86 _ gm (N + i * winCnt (d - 1)) _ rfl HM2.out (by have := HNB.out; have := HCP.out; have := cnt_last HII.out HD.out; omega) _ _ kl rfl rfl HKL.out _ [] (plainElem_int Tryd.underlying2 (wf_small (v := 3 - ow) (by omega) (by omega))) ?_; intro w4_ hown4 hg4_; have HW4 := Aside0.mk hown4; have HG4_ := Aside0.mk hg4_; clear hown4 hg4_))
        go_ret
        exact ⟨by rw [HNW.out]; rfl, find_env HE3.out HW4.out (HMM2.out.put turnKeyed (HM2.out.isMap) HKL.out (fun s' b' e => by injection e with e; injection e with e; simp only [List.cons.injEq, Value.string.injEq, Value.bool.injEq, and_true] at e; obtain ⟨rfl, rfl⟩ := e; rw [HNW.out]; rfl)) HG4_.out (by have := cnt_last HII.out HD.out; omega), HB3.out.trans HG4_.out⟩
theorem find_all (w0 : World) (gK gX gF gm : Nat) (p : Int) (A : Option Addr) (c : Nat) (l : List (List Int)) (hv : isNetV p l = true) (hr : Kd.C (Kd.slice 2 (Kd.int .i64)) w0 A l.length l) (hc : l.length ≤ c) : ∀ d, FindDoes w0 gK gX gF gm p A c l d
  | 0 => find_step w0 gK gX gF gm p A c l hv hr hc 0 (fun h => absurd rfl h)
  | d + 1 => find_step w0 gK gX gF gm p A c l hv hr hc (d + 1) (fun _ => find_all w0 gK gX gF gm p A c l hv hr hc d)
set_option maxHeartbeats 8000000 in
set_option maxRecDepth 100000 in
theorem impl_Net_winners.calls (p : Int) (A : Option Addr) (c : Nat) (l : List (List Int)) (w : World) :
    Calls Tryd.prog 41 #[.agg #[.int .i64 p, .slice A l.length c]] w fun e w' => ∃ gK gX gF gm : Nat, e = .returned (.func (.func 64) #[] #[.pointer (some ⟨gK, 0, none⟩), .pointer (some ⟨gX, 0, none⟩), .pointer (some ⟨gF, 0, none⟩)]) ∧ WinEnv w gK gX gF gm p A c l 0 w' := by
  have HB := Aside0.mk (Below.refl w.heap.size w)
  have hmm := @run_makeMap Tryd.prog
  have hu2 := Tryd.underlying28
  have hrs := fun (w : World) (a : Addr) (m : Mode) (g : Option Nat) => @run_store_map_ Tryd.prog w a m g
  have hrf := fun (w : World) (a : Addr) (m : Mode) (f : Fn) (t b : Array Value) => @run_store_func Tryd.prog w a m f t b
  go_enter Tryd.func41, Tryd.ntmps41
  go_wp2_with (first | ((with_reducible refine gate_dst (N := 1) rfl ?_); refine box_event ?hg (N := 1) ?hd (cs := #[.int .i64 p, .slice A l.length c]) (t := 28) ?hr ?_; (case hd => rfl); (case hg => rfl); (case hr => first | (go_simp; done) | (go_simp; rfl)); intro gX hg_ w_ hbox hb; have HXX := Aside0.mk hbox; have HGX := Aside0.mk (show w.heap.size ≤ gX by have := below_size HB.out; omega); clear hbox hg_; have nHB_ := Aside0.mk (below_step HB.out hb); clear HB hb; have HB := nHB_; clear nHB_; have hcx0 := (blk_cell HXX.out 0).trans rfl; have hcx1 := (blk_cell HXX.out 1).trans rfl) | ((with_reducible refine gate_dst (N := 5) rfl ?_); refine made_event ?hg (N := 5) ?hd 64 (plainElem Tryd.prog 2) ?hr ?_; (case hd => rfl); (case hg => rfl); (case hr => first | (go_simp; done) | (go_simp; rfl)); intro gm hgm wm hown hb; have HGM := Aside0.mk (show w.heap.size ≤ gm ∧ gX ≠ gm by have := below_size HB.out; have := blk_lt HXX.out; omega); have HM := Aside0.mk hown; (try clear hcx0); (try clear hcx1); clear hown hgm; have nHB_ := Aside0.mk (below_step HB.out hb); have nHXX_ := Aside0.mk (blk_below HXX.out hb); clear HB HXX hb; have HB := nHB_; have HXX := nHXX_; clear nHB_ nHXX_; have hcx0 := (blk_cell HXX.out 0).trans rfl; have hcx1 := (blk_cell HXX.out 1).trans rfl) | ((with_reducible refine gate_dst (N := 3) rfl ?_); refine box_event ?hg (N := 3) ?hd (cs := #[.map none]) (t := 86) ?hr ?_; (case hd => rfl); (case hg => rfl); (case hr => first | (go_simp; done) | (go_simp; rfl)); intro gK hg_ w_ hbox hb; have HXK := Aside0.mk hbox; have HGK := Aside0.mk (show w.heap.size ≤ gK ∧ gX ≠ gK by have := below_size HB.out; have := blk_lt HXX.out; omega); have HGKM := Aside0.mk (show gm ≠ gK by have := HM.out.lt; omega); (try clear hcx0); (try clear hcx1); clear hbox hg_; have nHB_ := Aside0.mk (below_step HB.out hb); have nHXX_ := Aside0.mk (blk_below HXX.out hb); have nHM_ := Aside0.mk (HM.out.kept (grown_of_below hb none) (by simp)); clear HB HXX HM hb; have HB := nHB_; have HXX := nHXX_; have HM := nHM_; clear nHB_ nHXX_ nHM_; have hcx0 := (blk_cell HXX.out 0).trans rfl; have hcx1 := (blk_cell HXX.out 1).trans rfl; have hck0 := (blk_cell HXK.out 0).trans rfl) | ((with_reducible refine gate_store (t := 86) (p := 3) rfl ?_); have hfz_ := blk_frozen HXK.out 0; refine store_event (t := 86) (p := 3) (v := .tmp 5) (w1 := (w_.setCell ⟨gK, 0, none⟩ (.map (some gm)))) ?hg ?ho ?hn ?hr ?_; (case ho => rfl); (case hg => rfl); (case hn => rfl); (case hr => first | (go_simp; done) | (go_simp; rfl)); intro w2_ hw_; clear hfz_; have nHB_ := Aside0.mk ((below_set HB.out HGK.out.1 : Below w.heap.size w (w_.setCell ⟨gK, 0, none⟩ (.map (some gm))))); have nHXX_ := Aside0.mk (blk_far (p := ⟨gK, 0, none⟩) HXX.out (show gX ≠ gK by have := HGK.out; omega) (.map (some gm))); have nHM_ := Aside0.mk (HM.out.setCell (a := ⟨gK, 0, none⟩) (HGKM.out) (.map (some gm))); have nHXK_ := Aside0.mk (blk_put HXK.out 0 (.map (some gm)) rfl); replace nHB_ := nHB_.out; rw [← hw_] at nHB_; replace nHXX_ := nHXX_.out; rw [← hw_] at nHXX_; replace nHM_ := nHM_.out; rw [← hw_] at nHM_; replace nHXK_ := nHXK_.out; rw [← hw_] at nHXK_; (try clear hcx0); (try clear hcx1); (try clear hck0); clear hw_ HB HXX HM HXK; have HB := Aside0.mk nHB_; have HXX := Aside0.mk nHXX_; have HM := Aside0.mk nHM_; have HXK := Aside0.mk nHXK_; clear nHB_ nHXX_ nHM_ nHXK_; have hcx0 := (blk_cell HXX.out 0).trans rfl; have hcx1 := (blk_cell HXX.out 1).trans rfl; have hck0 := (blk_cell HXK.out 0).trans rfl) | ((with_reducible refine gate_dst (N := 4) rfl ?_); refine box_event ?hg (N := 4) ?hd (cs := #[.nilFunc]) (t := 61) ?hr ?_; (case hd => rfl); (case hg => rfl); (case hr => first | (go_simp; done) | (go_simp; rfl)); intro gF hg_ w_ hbox hb; have HXF := Aside0.mk hbox; have HGF := Aside0.mk (show w.heap.size ≤ gF ∧ gX ≠ gF ∧ gK ≠ gF by have := below_size HB.out; have := blk_lt HXX.out; have := blk_lt HXK.out; omega); have HGFM := Aside0.mk (show gm ≠ gF by have := HM.out.lt; omega); (try clear hcx0); (try clear hcx1); (try clear hck0); clear hbox hg_; have nHB_ := Aside0.mk (below_step HB.out hb); have nHXX_ := Aside0.mk (blk_below HXX.out hb); have nHM_ := Aside0.mk (HM.out.kept (grown_of_below hb none) (by simp)); have nHXK_ := Aside0.mk (blk_below HXK.out hb); clear HB HXX HM HXK hb; have HB := nHB_; have HXX := nHXX_; have HM := nHM_; have HXK := nHXK_; clear nHB_ nHXX_ nHM_ nHXK_; have hcx0 := (blk_cell HXX.out 0).trans rfl; have hcx1 := (blk_cell HXX.out 1).trans rfl; have hck0 := (blk_cell HXK.out 0).trans rfl; have hcf0 := (blk_cell HXF.out 0).trans rfl) | ((with_reducible refine gate_store (t := 61) (p := 4) rfl ?_); have hfz_ := blk_frozen HXF.out 0; refine store_event (t := 61) (p := 4) (v := .tmp 6) (w1 := (w_.setCell ⟨gF, 0, none⟩ (.func (.func 64) #[] #[.pointer (some ⟨gK, 0, none⟩), .pointer (some ⟨gX, 0, none⟩), .pointer (some ⟨gF, 0, none⟩)]))) ?hg ?ho ?hn ?hr ?_; (case ho => rfl); (case hg => rfl); (case hn => rfl); (case hr => first | (go_simp; done) | (go_simp; rfl)); intro w2_ hw_; clear hfz_; have nHB_ := Aside0.mk ((below_set HB.out HGF.out.1 : Below w.heap.size w (w_.setCell ⟨gF, 0, none⟩ (.func (.func 64) #[] #[.pointer (some ⟨gK, 0, none⟩), .pointer (some ⟨gX, 0, none⟩), .pointer (some ⟨gF, 0, none⟩)])))); have nHXX_ := Aside0.mk (blk_far (p := ⟨gF, 0, none⟩) HXX.out (show gX ≠ gF by have := HGF.out; omega) (.func (.func 64) #[] #[.pointer (some ⟨gK, 0, none⟩), .pointer (some ⟨gX, 0, none⟩), .pointer (some ⟨gF, 0, none⟩)])); have nHM_ := Aside0.mk (HM.out.setCell (a := ⟨gF, 0, none⟩) (HGFM.out) (.func (.func 64) #[] #[.pointer (some ⟨gK, 0, none⟩), .pointer (some ⟨gX, 0, none⟩), .pointer (some ⟨gF, 0, none⟩)])); have nHXK_ := Aside0.mk (blk_far (p := ⟨gF, 0, none⟩) HXK.out (show gK ≠ gF by have := HGF.out; omega) (.func (.func 64) #[] #[.pointer (some ⟨gK, 0, none⟩), .pointer (some ⟨gX, 0, none⟩), .pointer (some ⟨gF, 0, none⟩)])); have nHXF_ := Aside0.mk (blk_put HXF.out 0 (.func (.func 64) #[] #[.pointer (some ⟨gK, 0, none⟩), .pointer (some ⟨gX, 0, none⟩), .pointer (some ⟨gF, 0, none⟩)]) rfl); replace nHB_ := nHB_.out; rw [← hw_] at nHB_; replace nHXX_ := nHXX_.out; rw [← hw_] at nHXX_; replace nHM_ := nHM_.out; rw [← hw_] at nHM_; replace nHXK_ := nHXK_.out; rw [← hw_] at nHXK_; replace nHXF_ := nHXF_.out; rw [← hw_] at nHXF_; (try clear hcx0); (try clear hcx1); (try clear hck0); (try clear hcf0); clear hw_ HB HXX HM HXK HXF; have HB := Aside0.mk nHB_; have HXX := Aside0.mk nHXX_; have HM := Aside0.mk nHM_; have HXK := Aside0.mk nHXK_; have HXF := Aside0.mk nHXF_; clear nHB_ nHXX_ nHM_ nHXK_ nHXF_; have hcx0 := (blk_cell HXX.out 0).trans rfl; have hcx1 := (blk_cell HXX.out 1).trans rfl; have hck0 := (blk_cell HXK.out 0).trans rfl; have hcf0 := (blk_cell HXF.out 0).trans rfl))
  go_ret
  exact ⟨gK, gX, gF, gm, rfl, HB.out, HXK.out, HXX.out, HXF.out, ⟨_, HM.out, Memo.empty⟩, ⟨HGKM.out, fun e => HGM.out.2 e.symm, HGFM.out⟩, HGM.out.1⟩
/-! ### impl_StateWinner: function 15 -/
-- EXTERNAL: by hand
-- impl_Net_winners impl_stateOfCode impl_Net_best
def impl_StateWinner.f (k : Nat) (a0_0 : Int) (l0_1 : List (List Int)) (a1 : ByteArray) (a2 : Bool) : Option (Int × Int) := (impl_stateOfCode.f k a0_0 l0_1 a1).bind fun c => if c = 0 then (if isNetV a0_0 l0_1 = true ∧ a1.size = l0_1.length then some (netWin l0_1 a1 a2, 0) else none) else some (0, c)
theorem impl_StateWinner.mono : ∀ a0 a1 a2 a3 k, LeO (impl_StateWinner.f k a0 a1 a2 a3) (impl_StateWinner.f (k + 1) a0 a1 a2 a3) := by
  intro a0 a1 a2 a3 k
  unfold impl_StateWinner.f
  exact LeO.bind (impl_stateOfCode.mono _ _ _ _) (fun _ => LeO.refl _)
theorem winCnt_big : 40 * winCnt 10 < maxLen := by simp [winCnt, maxLen]
set_option maxHeartbeats 8000000 in
set_option maxRecDepth 100000 in
theorem impl_StateWinner.calls (k : Nat) (a0_0 : Int) (A0_1 : Option Addr) (c0_1 : Nat) (l0_1 : List (List Int)) (a1 : ByteArray) (a2 : Bool) (r1 : Int) (r2 : Int) (w : World) (hr0_1 : Kd.C (Kd.slice 2 (Kd.int .i64)) w A0_1 l0_1.length l0_1) (hc0_1 : l0_1.length ≤ c0_1) (h : impl_StateWinner.f k a0_0 l0_1 a1 a2 = some (r1, r2)) :
    Calls Tryd.prog 15 #[.agg #[.int .i64 a0_0, .slice A0_1 l0_1.length c0_1], .string a1, .bool a2] w fun e w' => e = .returned (.tuple #[.int .i64 r1, .int .i64 r2]) ∧ Below w.heap.size w w' := by
  unfold impl_StateWinner.f at h
  obtain ⟨code, hcd, h⟩ := Option.bind_eq_some_iff.1 h
  have HCD := Aside0.mk hcd
  have HB := Aside0.mk (Below.refl w.heap.size w)
  have HR := Aside0.mk hr0_1
  have HC0 := Aside0.mk hc0_1
  have hu := Tryd.underlying28
  have hu2 := Tryd.underlying64
  clear hcd
  by_cases hc0 : code = 0
  · rw [if_pos hc0] at h
    have hcz : (code != 0) = false := bne_eq_false_iff_eq.mpr hc0
    by_cases hv : isNetV a0_0 l0_1 = true ∧ a1.size = l0_1.length
    case neg => rw [if_neg hv] at h; cases h
    rw [if_pos hv] at h
    obtain ⟨hv, hs⟩ := hv
    have hl := (netEdges hv).1.1
    have hfl : (freeV a1).length ≤ a1.size := chosenTo_le _ _
    have HV := Aside0.mk hv
    have HSS := Aside0.mk hs
    have HFL := Aside0.mk (show (freeV a1).length ≤ 10 by omega)
    clear hc0 hv hs hl hfl hr0_1 hc0_1
    simp only [Option.some.injEq, Prod.mk.injEq] at h
    obtain ⟨rfl, rfl⟩ := h
    go_enter Tryd.func15, Tryd.ntmps15
    go_wp2_with (first | ((with_reducible refine gate_dst (N := 3) rfl ?_); refine box_event ?hg (N := 3) ?hd (cs := #[.int .i64 a0_0, .slice A0_1 l0_1.length c0_1]) (t := 28) ?hr ?_; (case hd => rfl); (case hg => rfl); (case hr => first | (go_simp; done) | (go_simp; rfl)); intro g3 hg_ w_ hbox hb; have HX3 := Aside0.mk hbox; have HG3 := Aside0.mk (show w.heap.size ≤ g3 by have := below_size HB.out; omega); clear hbox hg_; have nHB_ := Aside0.mk (below_step HB.out hb); clear HB hb; have HB := nHB_; clear nHB_; have hc30 := (blk_cell HX3.out 0).trans rfl; have hc31 := (blk_cell HX3.out 1).trans rfl) | (go_at_call 35; refine (impl_stateOfCode.calls k a0_0 A0_1 c0_1 l0_1 a1 code _ (Kd.C_below HR.out HB.out) HC0.out HCD.out).mono ?_; rintro e w_ ⟨rfl, hb⟩; (try clear hc30); (try clear hc31); have nHB_ := Aside0.mk (below_step HB.out hb); have nHX3_ := Aside0.mk (blk_below HX3.out hb); clear HB HX3 hb; have HB := nHB_; have HX3 := nHX3_; clear nHB_ nHX3_; have hc30 := (blk_cell HX3.out 0).trans rfl; have hc31 := (blk_cell HX3.out 1).trans rfl) | (go_at_call 41; have HRW := Aside0.mk (Kd.C_below HR.out HB.out); refine (impl_Net_winners.calls a0_0 A0_1 c0_1 l0_1 _).mono ?_; rintro e wa_ ⟨gK, gX, gF, gm, rfl, hE⟩; have HE := Aside0.mk hE; have HBW := Aside0.mk (below_step HB.out hE.below); clear hE) | (go_at_call 64; refine (find_all _ gK gX gF gm a0_0 A0_1 c0_1 l0_1 HV.out HRW.out HC0.out 10 a1 a2 0 _ HFL.out HSS.out HE.out (by have := winCnt_big; omega)).mono ?_; rintro e wb_ ⟨rfl, hE2, hG2⟩; have HE2 := Aside0.mk hE2; clear hE2 hG2))
    go_ret2
    exact ⟨rfl, below_step HB.out HE2.out.below⟩
  · rw [if_neg hc0] at h
    simp only [Option.some.injEq, Prod.mk.injEq] at h
    obtain ⟨rfl, rfl⟩ := h
    have hcz : (code != 0) = true := bne_iff_ne.mpr hc0
    clear hc0
    go_enter Tryd.func15, Tryd.ntmps15
    go_wp2_with (first | ((with_reducible refine gate_dst (N := 3) rfl ?_); refine box_event ?hg (N := 3) ?hd (cs := #[.int .i64 a0_0, .slice A0_1 l0_1.length c0_1]) (t := 28) ?hr ?_; (case hd => rfl); (case hg => rfl); (case hr => first | (go_simp; done) | (go_simp; rfl)); intro g3 hg_ w_ hbox hb; have HX3 := Aside0.mk hbox; have HG3 := Aside0.mk (show w.heap.size ≤ g3 by have := below_size HB.out; omega); clear hbox hg_; have nHB_ := Aside0.mk (below_step HB.out hb); clear HB hb; have HB := nHB_; clear nHB_; have hc30 := (blk_cell HX3.out 0).trans rfl; have hc31 := (blk_cell HX3.out 1).trans rfl) | (go_at_call 35; refine (impl_stateOfCode.calls k a0_0 A0_1 c0_1 l0_1 a1 code _ (Kd.C_below HR.out HB.out) HC0.out HCD.out).mono ?_; rintro e w_ ⟨rfl, hb⟩; (try clear hc30); (try clear hc31); have nHB_ := Aside0.mk (below_step HB.out hb); have nHX3_ := Aside0.mk (blk_below HX3.out hb); clear HB HX3 hb; have HB := nHB_; have HX3 := nHX3_; clear nHB_ nHX3_; have hc30 := (blk_cell HX3.out 0).trans rfl; have hc31 := (blk_cell HX3.out 1).trans rfl))
    go_ret2
    exact ⟨rfl, HB.out⟩
-- Rows of rows of whole numbers that are handed to what writes them.
/-- The blocks that a row of rows (elements of type e) may lead to. -/
def ownS {α : Type} (d : Kd α) (e : Nat) (w : World) (ok : Nat → Prop) (k : Nat) : Prop := ok k ∧ k < w.heap.size ∧ ∃ q, q ∈ e :: d.E ∧ ∃ cells, w.heap[k]? = some (.cells cells q (0, 0))
theorem S_ownS {α : Type} {d : Kd α} {e base : Nat} {w : World} {ok : Nat → Prop} {v : Value} {xs : List α} (h : Kd.S d e w base ok v xs) : Kd.S d e w base (ownS d e w ok) v xs := Kd.S_mono (Kd.S_bound h) (fun _ hk => ⟨hk.1, hk.2.2.1, hk.2.2.2⟩)
theorem ownS_not {α : Type} {d : Kd α} {e k t : Nat} {w : World} {ok : Nat → Prop} {cs : Array Value} {fr : Nat × Nat} (h : ownS d e w ok k) (hb : w.heap[k]? = some (.cells cs t fr)) (ht : ∀ q, q ∈ e :: d.E → q ≠ t) : False := by
  obtain ⟨_, _, q, hq, cells, hc⟩ := h
  rw [hb] at hc
  injection hc with hc
  injection hc with _ hc
  exact ht q hq hc.symm
theorem ownS_typed {α : Type} {d : Kd α} {e k t : Nat} {w : World} {ok : Nat → Prop} {v : Value} (h : ownS d e w ok k) (hty : ∀ j, v.ownBlock = some j → ∃ cells, w.heap[j]? = some (.cells cells t (0, 0))) (ht : ∀ q, q ∈ e :: d.E → q ≠ t) : some k ≠ v.ownBlock := by
  intro e_
  obtain ⟨cells, hc⟩ := hty k e_.symm
  exact ownS_not h hc ht
theorem S_ltN {α : Type} {d : Kd α} {e base n : Nat} {w : World} {ok : Nat → Prop} {v : Value} {xs : List α} (h : Kd.S d e w base ok v xs) (hn : n = w.heap.size) : Kd.S d e w base (fun k => ok k ∧ k < n) v xs := Kd.S_mono (Kd.S_bound h) (fun _ hk => ⟨hk.1, by rw [hn]; exact hk.2.2.1⟩)
theorem S_geN {α : Type} {d : Kd α} {e n base : Nat} {w : World} {ok : Nat → Prop} {v : Value} {xs : List α} (h : Kd.S d e w base ok v xs) (hn : n = base) : Kd.S d e w base (fun k => ok k ∧ n ≤ k) v xs := Kd.S_mono (Kd.S_bound h) (fun _ hk => ⟨hk.1, by rw [hn]; exact hk.2.1⟩)
/-- Row i of a row of rows, lent to what writes it. -/
theorem S_lend_row {T e base g n cap : Nat} {W : World} {ok : Nat → Prop} {xs : List (List Int)} {i : Int} (h : Kd.S (Kd.slice T (Kd.int .i64)) e W base ok (.slice (some ⟨g, 0, none⟩) n cap) xs) (h0 : 0 ≤ i) (h1 : i < n) :
    ∃ (oki : Nat → Prop) (u : Value), Kd.R (Kd.int .i64) T W base oki u (xs.getD i.toNat []) ∧ W.cell? ⟨g, i.toNat, none⟩ = some u ∧ W.frozen? ⟨g, i.toNat, none⟩ = false ∧ (∀ k, oki k → ok k) ∧
      ∀ {W1 : World} {ok1 : Nat → Prop} {x' : List Int}, Kept W W1 oki → Kd.R (Kd.int .i64) T W1 base ok1 u x' → Kd.S (Kd.slice T (Kd.int .i64)) e W1 base ok (.slice (some ⟨g, 0, none⟩) n cap) (xs.set i.toNat x') := by
  obtain ⟨oki, c, hcl, hM, hcc, hfr, hoki, hH⟩ := Kd.S_elem h [] i h0 h1
  obtain ⟨u, rfl, hR⟩ := hM
  have hz : (Kd.slice T (Kd.int .i64)).sz = 1 := rfl
  refine ⟨oki, u, hR, ?_, ?_, fun k hk => (hoki k hk).1, fun hk h1 => ?_⟩
  · have := hcc 0 u rfl
    rw [hz, Nat.mul_one, Nat.add_zero] at this
    exact this
  · have := hfr 0
    rw [hz, Nat.mul_one, Nat.add_zero] at this
    exact this
  · exact Kd.H_back (Kd.H_step hH (fun k ho hn hlt => hk.2 k hlt hn)) (Kd.M_row (Kd.R_reok rfl h1 (fun k e_ => hR.1 k e_))) (fun _ hk => hk)
theorem nq_of {W w1 : World} (_hb : Below W.heap.size W w1) : ∃ n : Nat, n = W.heap.size := ⟨_, rfl⟩
/-! ### laws_FnExactStateWinner: function 4 -/
def laws_FnExactStateWinner.j0 : Nat → Bool → Int → List (List Int) → Int → List (List Int) → Option (Bool)
 | 0, _, _, _, _, _ => none
 | k + 1, x45, x248000, x248001, x260000, x260001 => if x45 = true then (some false) else ((laws_toNet.f k x248000 x248001).bind fun bt262 => ((laws_eqNet.f k x260000 x260001 bt262.1 bt262.2).bind fun t266 => (if t266 = true then (some true) else (some false))))
def laws_FnExactStateWinner.f (k : Nat) (a0_0 : Int) (l0_1 : List (List Int)) (a1 : ByteArray) (a2 : Bool) : Option (Bool) := if (a1.size : Int) > 1048576 then (some true) else ((laws_szNet.f k a0_0 l0_1 1048576).bind fun t248 => (if t248 < 0 then (some true) else ((laws_toNet.f k a0_0 l0_1).bind fun bt249 => ((spec_StateWinner.f k bt249.1 bt249.2 a1 a2).bind fun bt253 => ((laws_toNet.f k a0_0 l0_1).bind fun bt255 => ((impl_StateWinner.f k bt255.1 bt255.2 a1 a2).bind fun bt260 => (if bt260.1 = bt253.1 then (laws_FnExactStateWinner.j0 k (bt260.2 != bt253.2) a0_0 l0_1 bt255.1 bt255.2) else (laws_FnExactStateWinner.j0 k true a0_0 l0_1 bt255.1 bt255.2))))))))
theorem laws_FnExactStateWinner.mono_l : ∀ k, (∀ y0 y1 y2 y3 y4, LeO (laws_FnExactStateWinner.j0 k y0 y1 y2 y3 y4) (laws_FnExactStateWinner.j0 (k + 1) y0 y1 y2 y3 y4))
 | 0 => fun _ _ _ _ _ r h => by simp [laws_FnExactStateWinner.j0] at h
 | k + 1 => by
  have ih0 := laws_FnExactStateWinner.mono_l k
  ·intro y0 y1 y2 y3 y4
   unfold laws_FnExactStateWinner.j0
   repeat' first
   | (with_reducible exact ih0 _ _ _ _ _)
   | (with_reducible exact impl_StateWinner.mono _ _ _ _ _)
   | (with_reducible exact laws_eqNet.mono _ _ _ _ _)
   | (with_reducible exact laws_szNet.mono _ _ _ _)
   | (with_reducible exact laws_toNet.mono _ _ _)
   | (with_reducible exact spec_StateWinner.mono _ _ _ _ _)
   | (with_reducible exact LeO.refl _)
   | (with_reducible exact LeO.none _)
   | (with_reducible refine LeO.ite ?_ ?_)
   | (with_reducible refine LeO.bind ?_ (fun _ => ?_))
   | exact ih0 _ _ _ _ _
   | exact impl_StateWinner.mono _ _ _ _ _
   | exact laws_eqNet.mono _ _ _ _ _
   | exact laws_szNet.mono _ _ _ _
   | exact laws_toNet.mono _ _ _
   | exact spec_StateWinner.mono _ _ _ _ _
   | exact LeO.none _
   | refine LeO.ite ?_ ?_
   | refine LeO.bind ?_ (fun _ => ?_)
theorem laws_FnExactStateWinner.mono : ∀ a0 a1 a2 a3 k, LeO (laws_FnExactStateWinner.f k a0 a1 a2 a3) (laws_FnExactStateWinner.f (k + 1) a0 a1 a2 a3) := by
 intro a0 a1 a2 a3 k
 have ih0 := laws_FnExactStateWinner.mono_l k
 unfold laws_FnExactStateWinner.f
 repeat' first
   | (with_reducible exact ih0 _ _ _ _ _)
   | (with_reducible exact impl_StateWinner.mono _ _ _ _ _)
   | (with_reducible exact laws_eqNet.mono _ _ _ _ _)
   | (with_reducible exact laws_szNet.mono _ _ _ _)
   | (with_reducible exact laws_toNet.mono _ _ _)
   | (with_reducible exact spec_StateWinner.mono _ _ _ _ _)
   | (with_reducible exact LeO.refl _)
   | (with_reducible exact LeO.none _)
   | (with_reducible refine LeO.ite ?_ ?_)
   | (with_reducible refine LeO.bind ?_ (fun _ => ?_))
   | exact ih0 _ _ _ _ _
   | exact impl_StateWinner.mono _ _ _ _ _
   | exact laws_eqNet.mono _ _ _ _ _
   | exact laws_szNet.mono _ _ _ _
   | exact laws_toNet.mono _ _ _
   | exact spec_StateWinner.mono _ _ _ _ _
   | exact LeO.none _
   | refine LeO.ite ?_ ?_
   | refine LeO.bind ?_ (fun _ => ?_)
set_option maxHeartbeats 8000000 in
set_option maxRecDepth 100000 in
theorem laws_FnExactStateWinner.calls (k : Nat) (a0_0 : Int) (A0_1 : Option Addr) (c0_1 : Nat) (l0_1 : List (List Int)) (a1 : ByteArray) (a2 : Bool) (r : Bool) (w : World) (hr0_1 : Kd.C (Kd.slice 2 (Kd.int .i64)) w A0_1 l0_1.length l0_1) (hc0_1 : l0_1.length ≤ c0_1) (h : laws_FnExactStateWinner.f k a0_0 l0_1 a1 a2 = some true) :
  Calls Tryd.prog 4 #[.agg #[.int .i64 a0_0, .slice A0_1 l0_1.length c0_1], .string a1, .bool a2] w fun e w' => e = .returned (.bool true) ∧ Below w.heap.size w w' := by
 have hu24 := Tryd.underlying24
 have hu28 := Tryd.underlying28
 have HR0_1 := Aside0.mk hr0_1
 have HC0_1 := Aside0.mk hc0_1
 clear hr0_1 hc0_1
 have HB := Aside0.mk (Below.refl w.heap.size w)
 have H : (if (a1.size : Int) > 1048576 then (some true) else ((laws_szNet.f k a0_0 l0_1 1048576).bind fun t248 => (if t248 < 0 then (some true) else ((laws_toNet.f k a0_0 l0_1).bind fun bt249 => ((spec_StateWinner.f k bt249.1 bt249.2 a1 a2).bind fun bt253 => ((laws_toNet.f k a0_0 l0_1).bind fun bt255 => ((impl_StateWinner.f k bt255.1 bt255.2 a1 a2).bind fun bt260 => (if bt260.1 = bt253.1 then (laws_FnExactStateWinner.j0 k (bt260.2 != bt253.2) a0_0 l0_1 bt255.1 bt255.2) else (laws_FnExactStateWinner.j0 k true a0_0 l0_1 bt255.1 bt255.2))))))))) = some true := h
 clear h
 by_cases c4 : (a1.size : Int) > 1048576
 ·rw [if_pos c4] at H
  have c4b0 : decide (1048576 < (a1.size : Int)) = true := decide_eq_true c4
  have c4b1 : decide (1048576 < a1.size) = true := decide_eq_true (by omega)
  clear c4
  clear H
  go_enter Tryd.func4, Tryd.ntmps4
  go_wp2_with (first | ((with_reducible refine gate_dst (N := 3) rfl ?_); refine box_event ?hg (N := 3) ?hd (cs := #[.int .i64 a0_0, .slice A0_1 l0_1.length c0_1]) (t := 24) ?hr ?_; (case hd => rfl); (case hg => rfl); (case hr => first | (go_simp; done) | (go_simp; rfl)); intro gb247 hg w5 hbox hb; have n0_ := Aside0.mk (below_step (by repeat (first | (with_reducible first | exact HB.out | apply below_alloc | apply pw_below_drewN | apply below_drew1) | exact HB.out)) hb); have n1_ := Aside0.mk (hbox); have n2_ := Aside0.mk ((by rw [hg]; exact (below_size (by repeat (first | (with_reducible first | exact HB.out | apply below_alloc | apply pw_below_drewN | apply below_drew1) | exact HB.out))) : w.heap.size ≤ gb247)); have n3_ := Aside0.mk ((by rw [hg]; exact (below_size (by repeat (first | (with_reducible first | exact HB.out | apply below_alloc | apply pw_below_drewN | apply below_drew1) | exact HB.out))) : w.heap.size ≤ gb247)); clear HB; have HB := n0_; have BK247 := n1_; have GW247 := n2_; have GE247 := n3_; clear n0_ n1_ n2_ n3_; clear hb hbox hg))
  go_ret
  exact ⟨by first | rfl | (simp [errW_none, errW_some] <;> rfl) | (simp [*, errW_none, errW_some] <;> rfl), by repeat (first | (with_reducible first | exact HB.out | apply below_alloc | apply pw_below_drewN | apply below_drew1 | refine below_set ?_ GE247.out) | exact HB.out)⟩
 ·rw [if_neg c4] at H
  have c4b0 : decide (1048576 < (a1.size : Int)) = false := decide_eq_false c4
  have c4b1 : decide (1048576 < a1.size) = false := decide_eq_false (by omega)
  clear c4
  replace H := Option.bind_eq_some_iff.mp H
  obtain ⟨t248, A60, H⟩ := H
  replace H : (if t248 < 0 then (some true) else ((laws_toNet.f k a0_0 l0_1).bind fun bt249 => ((spec_StateWinner.f k bt249.1 bt249.2 a1 a2).bind fun bt253 => ((laws_toNet.f k a0_0 l0_1).bind fun bt255 => ((impl_StateWinner.f k bt255.1 bt255.2 a1 a2).bind fun bt260 => (if bt260.1 = bt253.1 then (laws_FnExactStateWinner.j0 k (bt260.2 != bt253.2) a0_0 l0_1 bt255.1 bt255.2) else (laws_FnExactStateWinner.j0 k true a0_0 l0_1 bt255.1 bt255.2))))))) = some true := H
  have A6 := Aside0.mk A60
  clear A60
  by_cases c7 : t248 < 0
  ·rw [if_pos c7] at H
   have c7b0 : decide (t248 < 0) = true := decide_eq_true c7
   clear c7
   clear H
   go_enter Tryd.func4, Tryd.ntmps4
   go_wp2_with (first | ((with_reducible refine gate_dst (N := 3) rfl ?_); refine box_event ?hg (N := 3) ?hd (cs := #[.int .i64 a0_0, .slice A0_1 l0_1.length c0_1]) (t := 24) ?hr ?_; (case hd => rfl); (case hg => rfl); (case hr => first | (go_simp; done) | (go_simp; rfl)); intro gb247 hg w8 hbox hb; have n0_ := Aside0.mk (below_step (by repeat (first | (with_reducible first | exact HB.out | apply below_alloc | apply pw_below_drewN | apply below_drew1) | exact HB.out)) hb); have n1_ := Aside0.mk (hbox); have n2_ := Aside0.mk ((by rw [hg]; exact (below_size (by repeat (first | (with_reducible first | exact HB.out | apply below_alloc | apply pw_below_drewN | apply below_drew1) | exact HB.out))) : w.heap.size ≤ gb247)); have n3_ := Aside0.mk ((by rw [hg]; exact (below_size (by repeat (first | (with_reducible first | exact HB.out | apply below_alloc | apply pw_below_drewN | apply below_drew1) | exact HB.out))) : w.heap.size ≤ gb247)); clear HB; have HB := n0_; have BK247 := n1_; have GW247 := n2_; have GE247 := n3_; clear n0_ n1_ n2_ n3_; clear hb hbox hg; have hcz9_0 : w8.cell? ⟨gb247, 0, none⟩ = some (.int .i64 a0_0) := (blk_cell BK247.out 0).trans rfl; have hcz9_1 : w8.cell? ⟨gb247, 1, none⟩ = some (.slice A0_1 l0_1.length c0_1) := (blk_cell BK247.out 1).trans rfl; have hfz9_0 := blk_frozen BK247.out 0; have hfz9_1 := blk_frozen BK247.out 1) | ((with_reducible refine gate_callee (f := 9) rfl ?_); refine goesL_ (some 18) rfl rfl Tryd.func9 (by kernel_rfl) rfl #[.agg #[.int .i64 a0_0, .slice A0_1 l0_1.length c0_1], .int .i64 1048576] rfl (by (try simp only [List.map_toArray, List.map_cons, List.map_nil]); first | done | rfl | (simp only [List.length_drop, List.length_take]; rfl)) ?_; (with_reducible refine (laws_szNet.calls k a0_0 _ _ l0_1 1048576 t248 _ ?side1 ?side2 A6.out).mono ?_); (case side1 => repeat (first | exact (Kd.C_below HR0_1.out HB.out) | (with_reducible refine Kd.C_alloc ?_ _) | (with_reducible refine Kd.C_drewN ?_ _) | (with_reducible refine Kd.C_drew ?_))); (case side2 => exact HC0_1.out); rintro e w10 ⟨rfl, hb⟩; refine ⟨_, rfl, ?_⟩; have n0_ := Aside0.mk (blk_below (g := gb247) (o := .cells #[.int .i64 a0_0, .slice A0_1 l0_1.length c0_1] 24 (0, 0)) (by (with_reducible repeat (first | refine blk_drewN ?_ _ | refine blk_drew ?_ | refine blk_alloc ?_ _)); exact BK247.out) hb); have n1_ := Aside0.mk (below_step (by repeat (first | (with_reducible first | exact HB.out | apply below_alloc | apply pw_below_drewN | apply below_drew1 | refine below_set ?_ GE247.out) | exact HB.out)) hb); clear BK247; clear HB; have BK247 := n0_; have HB := n1_; clear n0_ n1_; (try clear hb); (try clear hb2); (try clear hk); (try clear hi)))
   go_ret
   exact ⟨by first | rfl | (simp [errW_none, errW_some] <;> rfl) | (simp [*, errW_none, errW_some] <;> rfl), by repeat (first | (with_reducible first | exact HB.out | apply below_alloc | apply pw_below_drewN | apply below_drew1 | refine below_set ?_ GE247.out) | exact HB.out)⟩
  ·rw [if_neg c7] at H
   have c7b0 : decide (t248 < 0) = false := decide_eq_false c7
   clear c7
   replace H := Option.bind_eq_some_iff.mp H
   obtain ⟨⟨t249, t250⟩, A110, H⟩ := H
   replace H : ((spec_StateWinner.f k t249 t250 a1 a2).bind fun bt253 => ((laws_toNet.f k a0_0 l0_1).bind fun bt255 => ((impl_StateWinner.f k bt255.1 bt255.2 a1 a2).bind fun bt260 => (if bt260.1 = bt253.1 then (laws_FnExactStateWinner.j0 k (bt260.2 != bt253.2) a0_0 l0_1 bt255.1 bt255.2) else (laws_FnExactStateWinner.j0 k true a0_0 l0_1 bt255.1 bt255.2))))) = some true := H
   have A11 := Aside0.mk A110
   clear A110
   replace H := Option.bind_eq_some_iff.mp H
   obtain ⟨⟨t253, t254⟩, A120, H⟩ := H
   replace H : ((laws_toNet.f k a0_0 l0_1).bind fun bt255 => ((impl_StateWinner.f k bt255.1 bt255.2 a1 a2).bind fun bt260 => (if bt260.1 = t253 then (laws_FnExactStateWinner.j0 k (bt260.2 != t254) a0_0 l0_1 bt255.1 bt255.2) else (laws_FnExactStateWinner.j0 k true a0_0 l0_1 bt255.1 bt255.2)))) = some true := H
   have A12 := Aside0.mk A120
   clear A120
   replace H := Option.bind_eq_some_iff.mp H
   obtain ⟨⟨t255, t256⟩, A130, H⟩ := H
   replace H : ((impl_StateWinner.f k t255 t256 a1 a2).bind fun bt260 => (if bt260.1 = t253 then (laws_FnExactStateWinner.j0 k (bt260.2 != t254) a0_0 l0_1 t255 t256) else (laws_FnExactStateWinner.j0 k true a0_0 l0_1 t255 t256))) = some true := H
   have A13 := Aside0.mk A130
   clear A130
   replace H := Option.bind_eq_some_iff.mp H
   obtain ⟨⟨t260, t261⟩, A140, H⟩ := H
   replace H : (if t260 = t253 then (laws_FnExactStateWinner.j0 k (t261 != t254) a0_0 l0_1 t255 t256) else (laws_FnExactStateWinner.j0 k true a0_0 l0_1 t255 t256)) = some true := H
   have A14 := Aside0.mk A140
   clear A140
   have HC15 := Aside0.mk H
   clear H
   go_enter Tryd.func4, Tryd.ntmps4
   go_upto_region 10 with (first | ((with_reducible refine gate_dst (N := 3) rfl ?_); refine box_event ?hg (N := 3) ?hd (cs := #[.int .i64 a0_0, .slice A0_1 l0_1.length c0_1]) (t := 24) ?hr ?_; (case hd => rfl); (case hg => rfl); (case hr => first | (go_simp; done) | (go_simp; rfl)); intro gb247 hg w16 hbox hb; have n0_ := Aside0.mk (below_step (by repeat (first | (with_reducible first | exact HB.out | apply below_alloc | apply pw_below_drewN | apply below_drew1) | exact HB.out)) hb); have n1_ := Aside0.mk (hbox); have n2_ := Aside0.mk ((by rw [hg]; exact (below_size (by repeat (first | (with_reducible first | exact HB.out | apply below_alloc | apply pw_below_drewN | apply below_drew1) | exact HB.out))) : w.heap.size ≤ gb247)); have n3_ := Aside0.mk ((by rw [hg]; exact (below_size (by repeat (first | (with_reducible first | exact HB.out | apply below_alloc | apply pw_below_drewN | apply below_drew1) | exact HB.out))) : w.heap.size ≤ gb247)); clear HB; have HB := n0_; have BK247 := n1_; have GW247 := n2_; have GE247 := n3_; clear n0_ n1_ n2_ n3_; clear hb hbox hg; have hcz17_0 : w16.cell? ⟨gb247, 0, none⟩ = some (.int .i64 a0_0) := (blk_cell BK247.out 0).trans rfl; have hcz17_1 : w16.cell? ⟨gb247, 1, none⟩ = some (.slice A0_1 l0_1.length c0_1) := (blk_cell BK247.out 1).trans rfl; have hfz17_0 := blk_frozen BK247.out 0; have hfz17_1 := blk_frozen BK247.out 1) | ((with_reducible refine gate_callee (f := 9) rfl ?_); refine goesL_ (some 18) rfl rfl Tryd.func9 (by kernel_rfl) rfl #[.agg #[.int .i64 a0_0, .slice A0_1 l0_1.length c0_1], .int .i64 1048576] rfl (by (try simp only [List.map_toArray, List.map_cons, List.map_nil]); first | done | rfl | (simp only [List.length_drop, List.length_take]; rfl)) ?_; (with_reducible refine (laws_szNet.calls k a0_0 _ _ l0_1 1048576 t248 _ ?side1 ?side2 A6.out).mono ?_); (case side1 => repeat (first | exact (Kd.C_below HR0_1.out HB.out) | (with_reducible refine Kd.C_alloc ?_ _) | (with_reducible refine Kd.C_drewN ?_ _) | (with_reducible refine Kd.C_drew ?_))); (case side2 => exact HC0_1.out); rintro e w18 ⟨rfl, hb⟩; refine ⟨_, rfl, ?_⟩; have n0_ := Aside0.mk (blk_below (g := gb247) (o := .cells #[.int .i64 a0_0, .slice A0_1 l0_1.length c0_1] 24 (0, 0)) (by (with_reducible repeat (first | refine blk_drewN ?_ _ | refine blk_drew ?_ | refine blk_alloc ?_ _)); exact BK247.out) hb); have n1_ := Aside0.mk (below_step (by repeat (first | (with_reducible first | exact HB.out | apply below_alloc | apply pw_below_drewN | apply below_drew1 | refine below_set ?_ GE247.out) | exact HB.out)) hb); clear BK247; clear HB; have BK247 := n0_; have HB := n1_; clear n0_ n1_; (try clear hb); (try clear hb2); (try clear hk); (try clear hi); have hcz19_0 : w18.cell? ⟨gb247, 0, none⟩ = some (.int .i64 a0_0) := (blk_cell BK247.out 0).trans rfl; have hcz19_1 : w18.cell? ⟨gb247, 1, none⟩ = some (.slice A0_1 l0_1.length c0_1) := (blk_cell BK247.out 1).trans rfl; have hfz19_0 := blk_frozen BK247.out 0; have hfz19_1 := blk_frozen BK247.out 1) | ((with_reducible refine gate_callee (f := 11) rfl ?_); refine goesL_ (some 23) rfl rfl Tryd.func11 (by kernel_rfl) rfl #[.agg #[.int .i64 a0_0, .slice A0_1 l0_1.length c0_1]] rfl (by (try simp only [List.map_toArray, List.map_cons, List.map_nil]); first | done | rfl | (simp only [List.length_drop, List.length_take]; rfl)) ?_; (with_reducible refine (laws_toNet.calls k a0_0 _ _ l0_1 t249 t250 _ ?side1 ?side2 A11.out).mono ?_); (case side1 => repeat (first | exact (Kd.C_below HR0_1.out HB.out) | (with_reducible refine Kd.C_alloc ?_ _) | (with_reducible refine Kd.C_drewN ?_ _) | (with_reducible refine Kd.C_drew ?_))); (case side2 => exact HC0_1.out); rintro e w20 ⟨v251, rfl, ho0, hb⟩; refine ⟨_, rfl, ?_⟩; have n0_ := Aside0.mk (Kd.S_lower ho0 (below_size (by repeat (first | (with_reducible first | exact HB.out | apply below_alloc | apply pw_below_drewN | apply below_drew1 | refine below_set ?_ GE247.out) | exact HB.out)))); have n1_ := Aside0.mk (blk_below (g := gb247) (o := .cells #[.int .i64 a0_0, .slice A0_1 l0_1.length c0_1] 24 (0, 0)) (by (with_reducible repeat (first | refine blk_drewN ?_ _ | refine blk_drew ?_ | refine blk_alloc ?_ _)); exact BK247.out) hb); have n2_ := Aside0.mk (below_step (by repeat (first | (with_reducible first | exact HB.out | apply below_alloc | apply pw_below_drewN | apply below_drew1 | refine below_set ?_ GE247.out) | exact HB.out)) hb); clear BK247; clear HB; have HO252 := n0_; have BK247 := n1_; have HB := n2_; clear n0_ n1_ n2_; (try clear hb); (try clear hb2); (try clear hk); (try clear hi); (try clear ho0); obtain ⟨Ao21, co21, eo21⟩ := Kd.S_slice HO252.out; subst eo21) | ((with_reducible refine gate_callee (f := 14) rfl ?_); refine goesL_ (some 26) rfl rfl Tryd.func14 (by kernel_rfl) rfl #[.agg #[.int .i64 t249, .slice Ao21 t250.length co21], .string a1, .bool a2] rfl (by (try simp only [List.map_toArray, List.map_cons, List.map_nil]); first | done | rfl | (simp only [List.length_drop, List.length_take]; rfl)) ?_; (with_reducible refine (spec_StateWinner.calls k t249 _ _ t250 a1 a2 t253 t254 _ ?side1 ?side2 A12.out).mono ?_); (case side1 => repeat (first | exact (Kd.S_reads' HO252.out).2.2 | (with_reducible refine Kd.C_alloc ?_ _) | (with_reducible refine Kd.C_drewN ?_ _) | (with_reducible refine Kd.C_drew ?_))); (case side2 => exact (Kd.S_reads' HO252.out).2.1); rintro e w22 ⟨rfl, hb⟩; refine ⟨_, rfl, ?_⟩; have n0_ := Aside0.mk (Kd.S_below (by (with_reducible repeat (first | apply Kd.S_alloc | apply Kd.S_drewN | apply Kd.S_drew)); exact HO252.out) hb); have n1_ := Aside0.mk (blk_below (g := gb247) (o := .cells #[.int .i64 a0_0, .slice A0_1 l0_1.length c0_1] 24 (0, 0)) (by (with_reducible repeat (first | refine blk_drewN ?_ _ | refine blk_drew ?_ | refine blk_alloc ?_ _)); exact BK247.out) hb); have n2_ := Aside0.mk (below_step (by repeat (first | (with_reducible first | exact HB.out | apply below_alloc | apply pw_below_drewN | apply below_drew1 | refine below_set ?_ GE247.out) | exact HB.out)) hb); clear HO252; clear BK247; clear HB; have HO252 := n0_; have BK247 := n1_; have HB := n2_; clear n0_ n1_ n2_; (try clear hb); (try clear hb2); (try clear hk); (try clear hi); have hcz23_0 : w22.cell? ⟨gb247, 0, none⟩ = some (.int .i64 a0_0) := (blk_cell BK247.out 0).trans rfl; have hcz23_1 : w22.cell? ⟨gb247, 1, none⟩ = some (.slice A0_1 l0_1.length c0_1) := (blk_cell BK247.out 1).trans rfl; have hfz23_0 := blk_frozen BK247.out 0; have hfz23_1 := blk_frozen BK247.out 1) | ((with_reducible refine gate_callee (f := 11) rfl ?_); refine goesL_ (some 30) rfl rfl Tryd.func11 (by kernel_rfl) rfl #[.agg #[.int .i64 a0_0, .slice A0_1 l0_1.length c0_1]] rfl (by (try simp only [List.map_toArray, List.map_cons, List.map_nil]); first | done | rfl | (simp only [List.length_drop, List.length_take]; rfl)) ?_; (with_reducible refine (laws_toNet.calls k a0_0 _ _ l0_1 t255 t256 _ ?side1 ?side2 A13.out).mono ?_); (case side1 => repeat (first | exact (Kd.C_below HR0_1.out HB.out) | (with_reducible refine Kd.C_alloc ?_ _) | (with_reducible refine Kd.C_drewN ?_ _) | (with_reducible refine Kd.C_drew ?_))); (case side2 => exact HC0_1.out); rintro e w24 ⟨v257, rfl, ho0, hb⟩; refine ⟨_, rfl, ?_⟩; obtain ⟨nq25, hi⟩ := nq_of hb; have n0_ := Aside0.mk (Kd.S_elder' (S_ltN (by (with_reducible repeat (first | apply Kd.S_alloc | apply Kd.S_drewN | apply Kd.S_drew)); exact HO252.out) hi) (Kd.S_base ho0) hb); have n1_ := Aside0.mk (Kd.S_lower (Kd.S_new' (S_geN ho0 hi) (Kd.S_lt (by (with_reducible repeat (first | apply Kd.S_alloc | apply Kd.S_drewN | apply Kd.S_drew)); exact HO252.out))) (below_size (by repeat (first | (with_reducible first | exact HB.out | apply below_alloc | apply pw_below_drewN | apply below_drew1 | refine below_set ?_ GE247.out) | exact HB.out)))); have n2_ := Aside0.mk (blk_below (g := gb247) (o := .cells #[.int .i64 a0_0, .slice A0_1 l0_1.length c0_1] 24 (0, 0)) (by (with_reducible repeat (first | refine blk_drewN ?_ _ | refine blk_drew ?_ | refine blk_alloc ?_ _)); exact BK247.out) hb); have n3_ := Aside0.mk (below_step (by repeat (first | (with_reducible first | exact HB.out | apply below_alloc | apply pw_below_drewN | apply below_drew1 | refine below_set ?_ GE247.out) | exact HB.out)) hb); clear HO252; clear BK247; clear HB; have HO252 := n0_; have HO258 := n1_; have BK247 := n2_; have HB := n3_; clear n0_ n1_ n2_ n3_; (try clear hb); (try clear hb2); (try clear hk); (try clear hi); (try clear ho0)) | ((with_reducible refine gate_dst (N := 10) rfl ?_); refine box_event ?hg (N := 10) ?hd (cs := #[.int .i64 0, .slice none 0 0]) (t := 28) ?hr ?_; (case hd => rfl); (case hg => rfl); (case hr => first | (go_simp; done) | (go_simp; rfl)); intro gb259 hg w26 hbox hb; have n0_ := Aside0.mk (Kd.S_below (by (with_reducible repeat (first | apply Kd.S_alloc | apply Kd.S_drewN | apply Kd.S_drew)); exact HO252.out) hb); have n1_ := Aside0.mk (Kd.S_below (by (with_reducible repeat (first | apply Kd.S_alloc | apply Kd.S_drewN | apply Kd.S_drew)); exact HO258.out) hb); have n2_ := Aside0.mk (blk_below (g := gb247) (o := .cells #[.int .i64 a0_0, .slice A0_1 l0_1.length c0_1] 24 (0, 0)) (by (with_reducible repeat (first | refine blk_drewN ?_ _ | refine blk_drew ?_ | refine blk_alloc ?_ _)); exact BK247.out) hb); have n3_ := Aside0.mk (below_step (by repeat (first | (with_reducible first | exact HB.out | apply below_alloc | apply pw_below_drewN | apply below_drew1 | refine below_set ?_ GE247.out) | exact HB.out)) hb); have n4_ := Aside0.mk (hbox); have n5_ := Aside0.mk ((by rw [hg]; exact (below_size (by repeat (first | (with_reducible first | exact HB.out | apply below_alloc | apply pw_below_drewN | apply below_drew1 | refine below_set ?_ GE247.out) | exact HB.out))) : w.heap.size ≤ gb259)); have n6_ := Aside0.mk ((by rw [hg]; exact (below_size (by repeat (first | (with_reducible first | exact HB.out | apply below_alloc | apply pw_below_drewN | apply below_drew1 | refine below_set ?_ GE247.out) | exact HB.out))) : w.heap.size ≤ gb259)); have n7_ := Aside0.mk ((by rw [hg]; exact Nat.ne_of_lt (blk_lt (g := gb247) (o := .cells #[.int .i64 a0_0, .slice A0_1 l0_1.length c0_1] 24 (0, 0)) (by (with_reducible repeat (first | refine blk_drewN ?_ _ | refine blk_drew ?_ | refine blk_alloc ?_ _)); exact BK247.out)) : gb247 ≠ gb259)); have n8_ := Aside0.mk ((by rw [hg]; exact Nat.ne_of_gt (blk_lt (g := gb247) (o := .cells #[.int .i64 a0_0, .slice A0_1 l0_1.length c0_1] 24 (0, 0)) (by (with_reducible repeat (first | refine blk_drewN ?_ _ | refine blk_drew ?_ | refine blk_alloc ?_ _)); exact BK247.out)) : gb259 ≠ gb247)); clear HO252; clear HO258; clear BK247; clear HB; have HO252 := n0_; have HO258 := n1_; have BK247 := n2_; have HB := n3_; have BK259 := n4_; have GW259 := n5_; have GE259 := n6_; have NB247_259 := n7_; have NB259_247 := n8_; clear n0_ n1_ n2_ n3_ n4_ n5_ n6_ n7_ n8_; clear hb hbox hg; have hnb27 := NB259_247.out; have hnc27 := NB247_259.out; have hcz28_0 : w26.cell? ⟨gb259, 0, none⟩ = some (.int .i64 0) := (blk_cell BK259.out 0).trans rfl; have hcz28_1 : w26.cell? ⟨gb259, 1, none⟩ = some (.slice none 0 0) := (blk_cell BK259.out 1).trans rfl; have hfz28_0 := blk_frozen BK259.out 0; have hfz28_1 := blk_frozen BK259.out 1; obtain ⟨Ao29, co29, eo29⟩ := Kd.S_slice HO258.out; subst eo29) | ((with_reducible refine gate_callee (f := 15) rfl ?_); refine goesL_ (some 35) rfl rfl Tryd.func15 (by kernel_rfl) rfl #[.agg #[.int .i64 t255, .slice Ao29 t256.length co29], .string a1, .bool a2] rfl (by (try simp only [List.map_toArray, List.map_cons, List.map_nil]); first | done | rfl | (simp only [List.length_drop, List.length_take]; rfl)) ?_; (with_reducible refine (impl_StateWinner.calls k t255 _ _ t256 a1 a2 t260 t261 _ ?side1 ?side2 A14.out).mono ?_); (case side1 => refine (Kd.S_reads' (e := 38) (base := w.heap.size) (ok := fun k_ => ((True ∧ nq25 ≤ k_) ∧ some k_ ≠ (.slice Ao21 t250.length co21 : Value).ownBlock)) (n := t256.length) (c := co29) ?_).2.2; exact (by (with_reducible repeat (first | apply Kd.S_alloc | apply Kd.S_drewN | apply Kd.S_drew)); exact (Kd.S_mono (Kd.S_far (p := ⟨gb259, 1, none⟩) (Kd.S_far (p := ⟨gb259, 0, none⟩) (Kd.S_types HO258.out BK259.out (by decide)) (fun _ hk => hk.2) (.int .i64 t255)) (fun _ hk => hk.2) (.slice Ao29 t256.length co29)) (fun _ h_ => h_.1)))); (case side2 => exact (Kd.S_reads' HO258.out).2.1); rintro e w30 ⟨rfl, hb⟩; refine ⟨_, rfl, ?_⟩; have n0_ := Aside0.mk (Kd.S_below (by (with_reducible repeat (first | apply Kd.S_alloc | apply Kd.S_drewN | apply Kd.S_drew)); exact (Kd.S_mono (Kd.S_far (p := ⟨gb259, 1, none⟩) (Kd.S_far (p := ⟨gb259, 0, none⟩) (Kd.S_types HO252.out BK259.out (by decide)) (fun _ hk => hk.2) (.int .i64 t255)) (fun _ hk => hk.2) (.slice Ao29 t256.length co29)) (fun _ h_ => h_.1))) hb); have n1_ := Aside0.mk (Kd.S_below (by (with_reducible repeat (first | apply Kd.S_alloc | apply Kd.S_drewN | apply Kd.S_drew)); exact (Kd.S_mono (Kd.S_far (p := ⟨gb259, 1, none⟩) (Kd.S_far (p := ⟨gb259, 0, none⟩) (Kd.S_types HO258.out BK259.out (by decide)) (fun _ hk => hk.2) (.int .i64 t255)) (fun _ hk => hk.2) (.slice Ao29 t256.length co29)) (fun _ h_ => h_.1))) hb); have n2_ := Aside0.mk (blk_below (g := gb247) (o := .cells #[.int .i64 a0_0, .slice A0_1 l0_1.length c0_1] 24 (0, 0)) (by (with_reducible repeat (first | refine blk_drewN ?_ _ | refine blk_drew ?_ | refine blk_alloc ?_ _)); refine blk_far ?_ NB247_259.out _; (with_reducible repeat (first | refine blk_drewN ?_ _ | refine blk_drew ?_ | refine blk_alloc ?_ _)); refine blk_far ?_ NB247_259.out _; (with_reducible repeat (first | refine blk_drewN ?_ _ | refine blk_drew ?_ | refine blk_alloc ?_ _)); exact BK247.out) hb); have n3_ := Aside0.mk (blk_below (g := gb259) (o := .cells #[.int .i64 t255, .slice Ao29 t256.length co29] 28 (0, 0)) (by (with_reducible repeat (first | refine blk_drewN ?_ _ | refine blk_drew ?_ | refine blk_alloc ?_ _)); refine blk_put (cs := #[.int .i64 t255, .slice none 0 0]) ?_ 1 _ rfl; (with_reducible repeat (first | refine blk_drewN ?_ _ | refine blk_drew ?_ | refine blk_alloc ?_ _)); refine blk_put (cs := #[.int .i64 0, .slice none 0 0]) ?_ 0 _ rfl; (with_reducible repeat (first | refine blk_drewN ?_ _ | refine blk_drew ?_ | refine blk_alloc ?_ _)); exact BK259.out) hb); have n4_ := Aside0.mk (below_step (by repeat (first | (with_reducible first | exact HB.out | apply below_alloc | apply pw_below_drewN | apply below_drew1 | refine below_set ?_ GE247.out | refine below_set ?_ GE259.out) | exact HB.out)) hb); clear HO252; clear HO258; clear BK247; clear BK259; clear HB; have HO252 := n0_; have HO258 := n1_; have BK247 := n2_; have BK259 := n3_; have HB := n4_; clear n0_ n1_ n2_ n3_ n4_; (try clear hb); (try clear hb2); (try clear hk); (try clear hi)))
   (try simp only [Act.put, List.setIfInBounds_toArray, List.set_cons_zero, List.set_cons_succ])
   go_cut [45] (fun v45 wc => ∃ (kq : Nat) (x45_14 : Bool), v45 = .bool x45_14 ∧ Aside0 (laws_FnExactStateWinner.j0 kq x45_14 a0_0 l0_1 t255 t256 = some true) ∧ Aside0 (kq ≤ k) ∧ Aside0 (Kd.S (Kd.slice 2 (Kd.int .i64)) 38 wc w.heap.size (fun k_ => nq25 ≤ k_) (.slice Ao29 t256.length co29) t256) ∧ Aside0 (wc.heap[gb247]? = some (.cells #[.int .i64 a0_0, (.slice A0_1 l0_1.length c0_1)] 24 (0, 0))) ∧ Aside0 (wc.heap[gb259]? = some (.cells #[.int .i64 t255, (.slice Ao29 t256.length co29)] 28 (0, 0))) ∧ Aside0 (Below w.heap.size w wc))
   case first =>
    have H := HC15.out
    clear HC15
    by_cases c31 : t260 = t253
    ·rw [if_pos c31] at H
     have c31b0 : (t260 == t253) = true := beq_iff_eq.mpr c31
     have c31b1 : (t260 != t253) = false := bne_eq_false_iff_eq.mpr c31
     clear c31
     (first | rw [c31b0] | (simp only [i64_w, i32_w]; rw [c31b0]) | skip)
     have H' := Aside0.mk H
     clear H
     go_wp2
     go_meet
     case rel => exact ⟨_, ((t261 != t254)), (by first | rfl | (simp; done) | (simp [*]; done)), H', ⟨by first | omega | exact Nat.le_refl _⟩, ⟨by (with_reducible repeat (first | apply Kd.S_alloc | apply Kd.S_drewN | apply Kd.S_drew)); exact Kd.S_mono HO258.out (fun _ hk => hk.1.2)⟩, ⟨by (with_reducible repeat (first | refine blk_drewN ?_ _ | refine blk_drew ?_ | refine blk_alloc ?_ _)); exact BK247.out⟩, ⟨by (with_reducible repeat (first | refine blk_drewN ?_ _ | refine blk_drew ?_ | refine blk_alloc ?_ _)); exact BK259.out⟩, ⟨by repeat (first | (with_reducible first | exact HB.out | apply below_alloc | apply pw_below_drewN | apply below_drew1 | refine below_set ?_ GE247.out | refine below_set ?_ GE259.out) | exact HB.out)⟩⟩
    ·rw [if_neg c31] at H
     have c31b0 : (t260 == t253) = false := beq_eq_false_iff_ne.mpr c31
     have c31b1 : (t260 != t253) = true := bne_iff_ne.mpr c31
     (first | rw [c31b0] | (simp only [i64_w, i32_w]; rw [c31b0]) | skip)
     have H' := Aside0.mk H
     clear H
     go_wp2
     go_meet
     case rel => exact ⟨_, (true), (by first | rfl | (simp; done) | (simp [*]; done)), H', ⟨by first | omega | exact Nat.le_refl _⟩, ⟨by (with_reducible repeat (first | apply Kd.S_alloc | apply Kd.S_drewN | apply Kd.S_drew)); exact Kd.S_mono HO258.out (fun _ hk => hk.1.2)⟩, ⟨by (with_reducible repeat (first | refine blk_drewN ?_ _ | refine blk_drew ?_ | refine blk_alloc ?_ _)); exact BK247.out⟩, ⟨by (with_reducible repeat (first | refine blk_drewN ?_ _ | refine blk_drew ?_ | refine blk_alloc ?_ _)); exact BK259.out⟩, ⟨by repeat (first | (with_reducible first | exact HB.out | apply below_alloc | apply pw_below_drewN | apply below_drew1 | refine below_set ?_ GE247.out | refine below_set ?_ GE259.out) | exact HB.out)⟩⟩
   case rest =>
    clear HC15
    try clear c1
    try clear c2
    try clear p2
    try clear q2
    try clear c3
    try clear c4
    try clear c4b0
    try clear c4b1
    try clear c7
    try clear c7b0
    try clear c9
    try clear c11
    try clear c14
    try clear c15
    try clear q25
    try clear c27
    try clear c31
    try clear c31b0
    try clear c31b1
    try clear hcz17_0
    try clear hcz17_1
    try clear hcz19_0
    try clear hcz19_1
    try clear hcz23_0
    try clear hcz23_1
    try clear hcz28_0
    try clear hcz28_1
    try clear hcz9_0
    try clear hcz9_1
    try clear hfz17_0
    try clear hfz17_1
    try clear hfz19_0
    try clear hfz19_1
    try clear hfz23_0
    try clear hfz23_1
    try clear hfz28_0
    try clear hfz28_1
    try clear hfz9_0
    try clear hfz9_1
    obtain ⟨kq, x45_14, rfl, HA, HJ14, HO_260001, BK247, BK259, HB⟩ := hcut
    cases kq with
    | zero => exact absurd HA.out (by simp [laws_FnExactStateWinner.j0])
    | succ kj14 =>
     have H := HA.out
     clear HA
     simp only [laws_FnExactStateWinner.j0] at H
     by_cases c32 : x45_14 = true
     ·subst c32
      have H1 : (some false) = some true := by rw [if_pos rfl] at H; exact H
      clear H
      have H := H1
      clear H1
      exact absurd H (by simp)
     ·replace c32 := Bool.eq_false_iff.mpr c32
      subst c32
      have H1 : ((laws_toNet.f kj14 a0_0 l0_1).bind fun bt262 => ((laws_eqNet.f kj14 t255 t256 bt262.1 bt262.2).bind fun t266 => (if t266 = true then (some true) else (some false)))) = some true := by rw [if_neg (show ¬ (false = true) by decide)] at H; exact H
      clear H
      have H := H1
      clear H1
      replace H := Option.bind_eq_some_iff.mp H
      obtain ⟨⟨t262, t263⟩, A330, H⟩ := H
      replace H : ((laws_eqNet.f kj14 t255 t256 t262 t263).bind fun t266 => (if t266 = true then (some true) else (some false))) = some true := H
      have A33 := Aside0.mk A330
      clear A330
      replace H := Option.bind_eq_some_iff.mp H
      obtain ⟨t266, A340, H⟩ := H
      replace H : (if t266 = true then (some true) else (some false)) = some true := H
      have A34 := Aside0.mk A340
      clear A340
      by_cases c35 : t266 = true
      ·subst c35
       have H1 : (some true) = some true := rfl
       clear H
       have H := H1
       clear H1
       clear H
       try go_wp2
       have n0_ := Aside0.mk (Kd.S_drew HO_260001.out)
       have n1_ := Aside0.mk (blk_drew BK247.out)
       have n2_ := Aside0.mk (blk_drew BK259.out)
       have n3_ := Aside0.mk (below_drew1 HB.out)
       clear HO_260001
       clear BK247
       clear BK259
       clear HB
       have HO_260001 := n0_
       have BK247 := n1_
       have BK259 := n2_
       have HB := n3_
       clear n0_ n1_ n2_ n3_
       refine start_ (n := 5) (S := fun w' => w'.cell? ⟨gb259, 0, none⟩ = some (.int .i64 t255) ∧ w'.cell? ⟨gb259, 1, none⟩ = some (.slice Ao29 t256.length co29) ∧ w'.cell? ⟨gb247, 0, none⟩ = some (.int .i64 a0_0) ∧ w'.cell? ⟨gb247, 1, none⟩ = some (.slice A0_1 l0_1.length c0_1)) (ds := []) #[false, false, false, false, false] (by kernel_rfl) rfl rfl ⟨(blk_cell BK259.out 0).trans rfl, (blk_cell BK259.out 1).trans rfl, (blk_cell BK247.out 0).trans rfl, (blk_cell BK247.out 1).trans rfl⟩ (fun hHeld => ?_)
       generalize wc.drew = w36 at HO_260001 BK247 BK259 HB hHeld ⊢
       refine take_ (i := 0) (N := some 46) (v := ?_) (a' := ?_) #[true, false, false, false, false] rfl rfl (by kernel_rfl) (fun _ _ _ h => h) (Or.inl ⟨by rfl, ?_⟩) hHeld ?_ ?_
       rotate_left
       ·rintro w' ⟨s0, s1, s2, s3⟩
        go_simp
        with_reducible rfl
       rotate_left
       ·simp only [Act.put, List.setIfInBounds_toArray, List.set_cons_zero, List.set_cons_succ, i64_w, i32_w]
        rfl
       refine take_ (i := 1) (N := some 47) (v := ?_) (a' := ?_) #[true, true, false, false, false] rfl rfl (by kernel_rfl) (fun _ _ _ h => h) (Or.inl ⟨by rfl, ?_⟩) hHeld ?_ ?_
       rotate_left
       ·rintro w' ⟨s0, s1, s2, s3⟩
        go_simp
        with_reducible rfl
       rotate_left
       ·simp only [Act.put, List.setIfInBounds_toArray, List.set_cons_zero, List.set_cons_succ, i64_w, i32_w]
        rfl
       refine one_ (i := 2) (N := some 48) #[true, true, true, false, false] rfl rfl (by kernel_rfl) (by decide) (fun K hK => ?_)
       refine goes_ Tryd.func11 (by kernel_rfl) rfl #[.agg #[.int .i64 a0_0, .slice A0_1 l0_1.length c0_1]] (by rfl) rfl rfl (by (try simp only [List.map_toArray, List.map_cons, List.map_nil]); first | done | rfl | (simp only [List.length_drop, List.length_take]; rfl)) ?_
       with_reducible refine (laws_toNet.calls kj14 a0_0 _ _ l0_1 t262 t263 _ ?side1 ?side2 A33.out).mono ?_
       (case side1 => repeat (first | exact (Kd.C_below HR0_1.out HB.out) | (with_reducible refine Kd.C_alloc ?_ _) | (with_reducible refine Kd.C_drewN ?_ _) | (with_reducible refine Kd.C_drew ?_)))
       (case side2 => exact HC0_1.out)
       rintro e w37 ⟨v264, rfl, ho0, hb⟩
       refine ⟨_, rfl, ?_⟩
       have n0_ := Aside0.mk (Kd.S_elder' (by (with_reducible repeat (first | apply Kd.S_alloc | apply Kd.S_drewN | apply Kd.S_drew)); exact HO_260001.out) (Kd.S_base ho0) hb)
       have n1_ := Aside0.mk (Kd.S_lower (Kd.S_new' ho0 (Kd.S_lt (by (with_reducible repeat (first | apply Kd.S_alloc | apply Kd.S_drewN | apply Kd.S_drew)); exact HO_260001.out))) (below_size (by repeat (first | (with_reducible first | exact HB.out | apply below_alloc | apply pw_below_drewN | apply below_drew1 | refine below_set ?_ GE247.out | refine below_set ?_ GE259.out) | exact HB.out))))
       have n2_ := Aside0.mk (blk_below (g := gb247) (o := .cells #[.int .i64 a0_0, .slice A0_1 l0_1.length c0_1] 24 (0, 0)) (by (with_reducible repeat (first | refine blk_drewN ?_ _ | refine blk_drew ?_ | refine blk_alloc ?_ _)); exact BK247.out) hb)
       have n3_ := Aside0.mk (blk_below (g := gb259) (o := .cells #[.int .i64 t255, .slice Ao29 t256.length co29] 28 (0, 0)) (by (with_reducible repeat (first | refine blk_drewN ?_ _ | refine blk_drew ?_ | refine blk_alloc ?_ _)); exact BK259.out) hb)
       have n4_ := Aside0.mk (below_step (by repeat (first | (with_reducible first | exact HB.out | apply below_alloc | apply pw_below_drewN | apply below_drew1 | refine below_set ?_ GE247.out | refine below_set ?_ GE259.out) | exact HB.out)) hb)
       clear HO_260001
       clear BK247
       clear BK259
       clear HB
       have HO_260001 := n0_
       have HO265 := n1_
       have BK247 := n2_
       have BK259 := n3_
       have HB := n4_
       clear n0_ n1_ n2_ n3_ n4_
       (try clear hb)
       (try clear hb2)
       (try clear hk)
       (try clear hi)
       (try clear ho0)
       obtain ⟨Ao38, co38, eo38⟩ := Kd.S_slice HO265.out
       (first | subst eo38 | (injection eo38 with f1_ f2_ f3_; have f4_ := f1_.symm; have f5_ := f3_.symm; clear f1_ f2_ f3_; subst f4_; subst f5_))
       refine hK.out _ _ ⟨(blk_cell BK259.out 0).trans rfl, (blk_cell BK259.out 1).trans rfl, (blk_cell BK247.out 0).trans rfl, (blk_cell BK247.out 1).trans rfl⟩ (fun hHeld => ?_)
       clear hK K
       refine norm_ (a' := ?_) ?_ ?_
       rotate_left
       ·show Act.put _ (some 48) _ = _
        simp only [Act.put, List.setIfInBounds_toArray, List.set_cons_zero, List.set_cons_succ, i64_w, i32_w]
        rfl
       refine one_ (i := 3) (N := some 49) #[true, true, true, true, false] rfl rfl (by kernel_rfl) (by decide) (fun K hK => ?_)
       refine goes_ Tryd.func13 (by kernel_rfl) rfl #[.agg #[.int .i64 t255, .slice Ao29 t256.length co29], .agg #[.int .i64 t262, .slice Ao38 t263.length co38]] (by rfl) rfl rfl (by (try simp only [List.map_toArray, List.map_cons, List.map_nil]); first | done | rfl | (simp only [List.length_drop, List.length_take]; rfl)) ?_
       with_reducible refine (laws_eqNet.calls kj14 t255 _ _ t256 t262 _ _ t263 true _ ?side1 ?side2 ?side3 ?side4 A34.out).mono ?_
       (case side1 => repeat (first | exact (Kd.S_reads' HO_260001.out).2.2 | (with_reducible refine Kd.C_alloc ?_ _) | (with_reducible refine Kd.C_drewN ?_ _) | (with_reducible refine Kd.C_drew ?_)))
       (case side2 => exact (Kd.S_reads' HO_260001.out).2.1)
       (case side3 => repeat (first | exact (Kd.S_reads' HO265.out).2.2 | (with_reducible refine Kd.C_alloc ?_ _) | (with_reducible refine Kd.C_drewN ?_ _) | (with_reducible refine Kd.C_drew ?_)))
       (case side4 => exact (Kd.S_reads' HO265.out).2.1)
       rintro e w39 ⟨rfl, hb⟩
       refine ⟨_, rfl, ?_⟩
       have n0_ := Aside0.mk (Kd.S_below (by (with_reducible repeat (first | apply Kd.S_alloc | apply Kd.S_drewN | apply Kd.S_drew)); exact HO_260001.out) hb)
       have n1_ := Aside0.mk (Kd.S_below (by (with_reducible repeat (first | apply Kd.S_alloc | apply Kd.S_drewN | apply Kd.S_drew)); exact HO265.out) hb)
       have n2_ := Aside0.mk (blk_below (g := gb247) (o := .cells #[.int .i64 a0_0, .slice A0_1 l0_1.length c0_1] 24 (0, 0)) (by (with_reducible repeat (first | refine blk_drewN ?_ _ | refine blk_drew ?_ | refine blk_alloc ?_ _)); exact BK247.out) hb)
       have n3_ := Aside0.mk (blk_below (g := gb259) (o := .cells #[.int .i64 t255, .slice Ao29 t256.length co29] 28 (0, 0)) (by (with_reducible repeat (first | refine blk_drewN ?_ _ | refine blk_drew ?_ | refine blk_alloc ?_ _)); exact BK259.out) hb)
       have n4_ := Aside0.mk (below_step (by repeat (first | (with_reducible first | exact HB.out | apply below_alloc | apply pw_below_drewN | apply below_drew1 | refine below_set ?_ GE247.out | refine below_set ?_ GE259.out) | exact HB.out)) hb)
       clear HO_260001
       clear HO265
       clear BK247
       clear BK259
       clear HB
       have HO_260001 := n0_
       have HO265 := n1_
       have BK247 := n2_
       have BK259 := n3_
       have HB := n4_
       clear n0_ n1_ n2_ n3_ n4_
       (try clear hb)
       (try clear hb2)
       (try clear hk)
       (try clear hi)
       refine hK.out _ _ ⟨(blk_cell BK259.out 0).trans rfl, (blk_cell BK259.out 1).trans rfl, (blk_cell BK247.out 0).trans rfl, (blk_cell BK247.out 1).trans rfl⟩ (fun hHeld => ?_)
       clear hK K
       refine norm_ (a' := ?_) ?_ ?_
       rotate_left
       ·show Act.put _ (some 49) _ = _
        simp only [Act.put, List.setIfInBounds_toArray, List.set_cons_zero, List.set_cons_succ, i64_w, i32_w]
        rfl
       refine pure_ (i := 4) (N := some 50) (v := ?_) (a' := ?_) #[true, true, true, true, true] rfl rfl (by kernel_rfl) (fun _ _ _ h => h) (Or.inl ⟨by rfl, ?_⟩) ?_ ?_
       rotate_left
       ·intro w'
        go_simp
        with_reducible rfl
       rotate_left
       ·simp only [Act.put, List.setIfInBounds_toArray, List.set_cons_zero, List.set_cons_succ, i64_w, i32_w]
        rfl
       refine done_ (by kernel_rfl) ?_
       try go_wp2
       go_ret
       exact ⟨by first | rfl | (simp [errW_none, errW_some] <;> rfl) | (simp [*, errW_none, errW_some] <;> rfl), by repeat (first | (with_reducible first | exact HB.out | apply below_alloc | apply pw_below_drewN | apply below_drew1 | refine below_set ?_ GE247.out | refine below_set ?_ GE259.out) | exact HB.out)⟩
      ·replace c35 := Bool.eq_false_iff.mpr c35
       subst c35
       have H1 : (some false) = some true := by rw [if_neg (show ¬ (false = true) by decide)] at H; exact H
       clear H
       have H := H1
       clear H1
       exact absurd H (by simp)
-- 'first' of two checks.
theorem first_ev (a b : Bool) : Ev (fun k => impl_first.f k [⟨a, 1⟩, ⟨b, 2⟩]) (if a = true then (if b = true then 0 else 2) else 1) := by
  refine ⟨4, fun k hk => ?_⟩
  obtain ⟨k', rfl⟩ : ∃ k', k = k' + 4 := ⟨k - 4, by omega⟩
  have w1 : wrap64 1 = 1 := by unfold wrap64; omega
  have w2 : wrap64 2 = 2 := by unfold wrap64; omega
  have r0 : ∀ u v : S71, rd_T71 [u, v] 0 = u := fun _ _ => rfl
  have r1 : ∀ u v : S71, rd_T71 [u, v] 1 = v := fun _ _ => rfl
  cases a <;> cases b <;> simp [impl_first.f, impl_first.l0, w1, w2, r0, r1]
-- needs: 61 (short never minds a better state, nor to move)
def ValidS (s : ByteArray) : Prop := ∀ i : Nat, i < s.size → bt s (i : Int) = 46 ∨ bt s (i : Int) = 115 ∨ bt s (i : Int) = 99
def LeS (s t : ByteArray) : Prop := s.size = t.size ∧ ∀ i : Nat, i < s.size → (bt s (i : Int) = 115 → bt t (i : Int) = 115) ∧ (bt t (i : Int) = 99 → bt s (i : Int) = 99)
theorem LeS.refl (s : ByteArray) : LeS s s := ⟨rfl, fun _ _ => ⟨id, id⟩⟩
theorem LeS.trans {s t u : ByteArray} (h : LeS s t) (k : LeS t u) : LeS s u :=
  ⟨h.1.trans k.1, fun i hi => ⟨fun e => (k.2 i (by have := h.1; omega)).1 ((h.2 i hi).1 e), fun e => (h.2 i hi).2 ((k.2 i (by have := h.1; omega)).2 e)⟩⟩
theorem mem_freeV {s : ByteArray} {x : Int} : x ∈ freeV s ↔ ∃ j : Nat, x = (j : Int) ∧ j < s.size ∧ bt s (j : Int) = 46 := by
  unfold freeV
  rw [mem_chosenTo]
  constructor
  · rintro ⟨h0, h1, h2⟩
    refine ⟨x.toNat, by omega, by omega, ?_⟩
    have e : ((x.toNat : Nat) : Int) = x := by omega
    rw [e]; exact beq_iff_eq.1 h2
  · rintro ⟨j, rfl, hj, h⟩
    exact ⟨by omega, by omega, beq_iff_eq.2 h⟩
theorem validS_after {s : ByteArray} (h : ValidS s) (j : Nat) (b : Bool) (hj : j < s.size) : ValidS (afterV s j b) := by
  intro i hi
  rw [afterV_size s j b hj] at hi
  rw [afterV_bt s j b hj i hi]
  split
  · cases b <;> simp
  · exact h i hi
theorem leS_both {s t : ByteArray} (h : LeS s t) (j : Nat) (b : Bool) (hj : j < s.size) : LeS (afterV s j b) (afterV t j b) := by
  have ht : j < t.size := by have := h.1; omega
  refine ⟨by rw [afterV_size s j b hj, afterV_size t j b ht, h.1], fun i hi => ?_⟩
  rw [afterV_size s j b hj] at hi
  rw [afterV_bt s j b hj i hi, afterV_bt t j b ht i (by have := h.1; omega)]
  split
  · exact ⟨id, id⟩
  · exact h.2 i hi
/-- A cut is worse for short, a kept edge is better. -/
theorem leS_cut {s : ByteArray} (j : Nat) (hj : j < s.size) (hf : bt s (j : Int) = 46) : LeS (afterV s j false) s := by
  refine ⟨afterV_size s j false hj, fun i hi => ?_⟩
  rw [afterV_size s j false hj] at hi
  rw [afterV_bt s j false hj i hi]
  split
  · rename_i e; subst e; rw [hf]; simp
  · exact ⟨id, id⟩
theorem leS_keep {s : ByteArray} (j : Nat) (hj : j < s.size) (hf : bt s (j : Int) = 46) : LeS s (afterV s j true) := by
  refine ⟨(afterV_size s j true hj).symm, fun i hi => ?_⟩
  rw [afterV_bt s j true hj i hi]
  split
  · rename_i e; subst e; rw [hf]; simp
  · exact ⟨id, id⟩
theorem leS_keepL {s t : ByteArray} (h : LeS s t) (j : Nat) (hj : j < s.size) (hk : bt t (j : Int) = 115) : LeS (afterV s j true) t := by
  refine ⟨(afterV_size s j true hj).trans h.1, fun i hi => ?_⟩
  rw [afterV_size s j true hj] at hi
  rw [afterV_bt s j true hj i hi]
  split
  · rename_i e; subst e; rw [hk]; simp
  · exact h.2 i hi
theorem leS_cutR {s t : ByteArray} (h : LeS s t) (j : Nat) (hj : j < t.size) (hk : bt s (j : Int) = 99) : LeS s (afterV t j false) := by
  refine ⟨h.1.trans (afterV_size t j false hj).symm, fun i hi => ?_⟩
  rw [afterV_bt t j false hj i (by have := h.1; omega)]
  split
  · rename_i e; subst e; rw [hk]; simp
  · exact h.2 i hi
theorem reachN_mono {l : List (List Int)} (hl : NetEdges l) {A B : Nat → Bool} (f : Nat) (hf : f < 8) (h : ∀ i, i < l.length → A i = true → B i = true) (x : Nat) (hx : (reachN A l f).testBit x = true) : (reachN B l f).testBit x = true := by
  obtain ⟨_, _, _, h4⟩ := reachN_is hl A f hf
  obtain ⟨_, k2, k3, _⟩ := reachN_is hl B f hf
  exact h4 _ k2 (fun i hi hA => k3 i hi (h i hi hA)) x hx
theorem ov_one {l : List (List Int)} (hl : NetEdges l) {s t : ByteArray} (hs : s.size = l.length) (h : LeS s t) (h1 : ovV l s = 1) : ovV l t = 1 := by
  unfold ovV at h1 ⊢
  by_cases c : (reachN (fun i => bt s (i : Int) == 115) l 0).testBit 1 = true
  · rw [if_pos (reachN_mono hl 0 (by omega) (fun i hi e => by
      have := (h.2 i (by omega)).1 (beq_iff_eq.1 e)
      exact beq_iff_eq.2 this) 1 c)]
  · rw [if_neg c] at h1
    split at h1 <;> omega
theorem ov_two {l : List (List Int)} (hl : NetEdges l) {s t : ByteArray} (hs : s.size = l.length) (h : LeS s t) (h2 : ovV l t = 2) : ovV l s = 2 := by
  by_cases c1 : ovV l s = 1
  · have := ov_one hl hs h c1; omega
  unfold ovV at h2 c1 ⊢
  by_cases c : (reachN (fun i => bt s (i : Int) == 115) l 0).testBit 1 = true
  · rw [if_pos c] at c1; omega
  · rw [if_neg c]
    by_cases d : (reachN (fun i => bt s (i : Int) != 99) l 0).testBit 1 = true
    · have := reachN_mono hl 0 (by omega) (A := fun i => bt s (i : Int) != 99) (B := fun i => bt t (i : Int) != 99) (fun i hi e => by
        have e1 : bt s (i : Int) ≠ 99 := bne_iff_ne.1 e
        exact bne_iff_ne.2 (fun e2 => e1 ((h.2 i (by omega)).2 e2))) 1 d
      rw [if_pos this] at h2
      split at h2 <;> omega
    · rw [if_neg d]
theorem free_ex {l : List (List Int)} {s : ByteArray} (hs : s.size = l.length) (hl : NetEdges l) (hv : ValidS s) (h : ovV l s = 0) : ∃ j : Nat, j < s.size ∧ bt s (j : Int) = 46 := by
  by_cases e : ∃ j : Nat, j < s.size ∧ bt s (j : Int) = 46
  · exact e
  exfalso
  have same : ∀ i, i < l.length → (bt s (i : Int) == 115) = (bt s (i : Int) != 99) := fun i hi => by
    rcases hv i (by omega) with h | h | h
    · exact absurd ⟨i, by omega, h⟩ e
    · rw [h]; rfl
    · rw [h]; rfl
  have er : reachN (fun i => bt s (i : Int) == 115) l 0 = reachN (fun i => bt s (i : Int) != 99) l 0 :=
    reachN_eq ((reachN_is hl (fun i => bt s (i : Int) != 99) 0 (by omega)).congr fun i hi => (same i hi).symm)
  unfold ovV at h
  rw [er] at h
  split at h <;> omega
theorem win_short {l : List (List Int)} {s : ByteArray} : netWin l s true = 1 ↔ (ovV l s = 1 ∨ (ovV l s = 0 ∧ ∃ j : Nat, j < s.size ∧ bt s (j : Int) = 46 ∧ netWin l (afterV s j true) false = 1)) := by
  rw [netWin_eq]
  by_cases h : ovV l s = 0
  · rw [if_pos h]
    have ho : ownV true = 1 := rfl
    rw [ho]
    by_cases ha : (freeV s).any (fun k => netWin l (afterV s k true) (!true) == 1) = true
    · rw [if_pos ha]
      obtain ⟨x, hx, hw⟩ := List.any_eq_true.1 ha
      obtain ⟨j, rfl, hj, hf⟩ := mem_freeV.1 hx
      exact ⟨fun _ => .inr ⟨h, j, hj, hf, beq_iff_eq.1 hw⟩, fun _ => rfl⟩
    · rw [if_neg ha]
      constructor
      · intro e; omega
      · rintro (e | ⟨_, j, hj, hf, hw⟩)
        · omega
        · exact absurd (List.any_eq_true (p := fun k => netWin l (afterV s k true) (!true) == 1) |>.2 ⟨(j : Int), mem_freeV.2 ⟨j, rfl, hj, hf⟩, beq_iff_eq.2 hw⟩) ha
  · rw [if_neg h]
    constructor
    · exact fun e => .inl e
    · rintro (e | ⟨e, _⟩)
      · exact e
      · exact absurd e h
theorem win_cut {l : List (List Int)} {s : ByteArray} : netWin l s false = 1 ↔ (ovV l s = 1 ∨ (ovV l s = 0 ∧ ∀ j : Nat, j < s.size → bt s (j : Int) = 46 → netWin l (afterV s j false) true = 1)) := by
  rw [netWin_eq]
  by_cases h : ovV l s = 0
  · rw [if_pos h]
    have ho : ownV false = 2 := rfl
    rw [ho]
    by_cases ha : (freeV s).any (fun k => netWin l (afterV s k false) (!false) == 2) = true
    · rw [if_pos ha]
      obtain ⟨x, hx, hw⟩ := List.any_eq_true.1 ha
      obtain ⟨j, rfl, hj, hf⟩ := mem_freeV.1 hx
      constructor
      · intro e; omega
      · rintro (e | ⟨_, e⟩)
        · omega
        · have h1 := e j hj hf
          have h2 := beq_iff_eq.1 hw
          rw [show (!false) = true from rfl] at h2
          omega
    · rw [if_neg ha]
      refine ⟨fun _ => .inr ⟨h, fun j hj hf => ?_⟩, fun _ => rfl⟩
      have hr := netWin_range l (afterV s j false) true
      have hp := netWin_pos l (afterV s j false) true
      by_cases e : netWin l (afterV s j false) true = 2
      · exact absurd (List.any_eq_true (p := fun k => netWin l (afterV s k false) (!false) == 2) |>.2 ⟨(j : Int), mem_freeV.2 ⟨j, rfl, hj, hf⟩, beq_iff_eq.2 e⟩) ha
      · omega
  · rw [if_neg h]
    constructor
    · exact fun e => .inl e
    · rintro (e | ⟨e, _⟩)
      · exact e
      · exact absurd e h
theorem win_mono {l : List (List Int)} (hl : NetEdges l) : ∀ (m : Nat) (s t : ByteArray) (b : Bool), (freeV s).length + (freeV t).length ≤ m → s.size = l.length → ValidS s → ValidS t → LeS s t → netWin l s b = 1 → netWin l t b = 1 := by
  intro m
  induction m with
  | zero =>
    intro s t b hm hs hvs hvt hle hw
    have e0 : ∀ u : ByteArray, (freeV u).length = 0 → u.size = l.length → ValidS u → ovV l u ≠ 0 := fun u hu hsz hv h0 => by
      obtain ⟨j, hj, hf⟩ := free_ex hsz hl hv h0
      have : (j : Int) ∈ freeV u := mem_freeV.2 ⟨j, rfl, hj, hf⟩
      rw [List.length_eq_zero_iff.1 hu] at this
      simp at this
    have h1 : ovV l s = 1 := by
      cases b
      · rcases win_cut.1 hw with e | ⟨e, _⟩
        · exact e
        · exact absurd e (e0 s (by omega) hs hvs)
      · rcases win_short.1 hw with e | ⟨e, _⟩
        · exact e
        · exact absurd e (e0 s (by omega) hs hvs)
    have h2 := ov_one hl hs hle h1
    cases b
    · exact win_cut.2 (.inl h2)
    · exact win_short.2 (.inl h2)
  | succ m ih =>
    intro s t b hm hs hvs hvt hle hw
    have ht : t.size = l.length := hle.1.symm.trans hs
    have hro := ovV_range l t
    have dec : ∀ (u : ByteArray) (j : Nat) (b : Bool), j < u.size → bt u (j : Int) = 46 → (freeV (afterV u j b)).length < (freeV u).length := fun u j b hj hf => free_less u j b (mem_freeV.2 ⟨j, rfl, hj, hf⟩)
    cases b with
    | true =>
      rcases win_short.1 hw with e | ⟨e0, j, hj, hf, hwj⟩
      · exact win_short.2 (.inl (ov_one hl hs hle e))
      · by_cases t1 : ovV l t = 1
        · exact win_short.2 (.inl t1)
        have t2 : ovV l t ≠ 2 := fun e => by have := ov_two hl hs hle e; omega
        have t0 : ovV l t = 0 := by omega
        refine win_short.2 (.inr ⟨t0, ?_⟩)
        have hjt : j < t.size := by have := hle.1; omega
        have d1 := dec s j true hj hf
        rcases hvt j hjt with f | f | f
        · have d2 := dec t j true hjt f
          exact ⟨j, hjt, f, ih _ _ false (by omega) ((afterV_size s j true hj).trans hs) (validS_after hvs j true hj) (validS_after hvt j true hjt) (leS_both hle j true hj) hwj⟩
        · obtain ⟨i, hi, fi⟩ := free_ex ht hl hvt t0
          have d2 := dec t i true hi fi
          exact ⟨i, hi, fi, ih _ _ false (by omega) ((afterV_size s j true hj).trans hs) (validS_after hvs j true hj) (validS_after hvt i true hi) ((leS_keepL hle j hj f).trans (leS_keep i hi fi)) hwj⟩
        · have := (hle.2 j hj).2 f
          omega
    | false =>
      rcases win_cut.1 hw with e | ⟨e0, hall⟩
      · exact win_cut.2 (.inl (ov_one hl hs hle e))
      · by_cases t1 : ovV l t = 1
        · exact win_cut.2 (.inl t1)
        have t2 : ovV l t ≠ 2 := fun e => by have := ov_two hl hs hle e; omega
        have t0 : ovV l t = 0 := by omega
        refine win_cut.2 (.inr ⟨t0, fun j hjt f => ?_⟩)
        have hj : j < s.size := by have := hle.1; omega
        have d2 := dec t j false hjt f
        rcases hvs j hj with g | g | g
        · have d1 := dec s j false hj g
          exact ih _ _ true (by omega) ((afterV_size s j false hj).trans hs) (validS_after hvs j false hj) (validS_after hvt j false hjt) (leS_both hle j false hj) (hall j hj g)
        · have := (hle.2 j hj).1 g
          omega
        · obtain ⟨i, hi, fi⟩ := free_ex hs hl hvs e0
          have d1 := dec s i false hi fi
          exact ih _ _ true (by omega) ((afterV_size s i false hi).trans hs) (validS_after hvs i false hi) (validS_after hvt j false hjt) ((leS_cut i hi fi).trans (leS_cutR hle j hjt g)) (hall i hi fi)
/-- Who wins as the second one wins as the first one. -/
theorem win_first {l : List (List Int)} (hl : NetEdges l) (s : ByteArray) (hs : s.size = l.length) (hv : ValidS s) (h : netWin l s false = 1) : netWin l s true = 1 := by
  rcases win_cut.1 h with e | ⟨e0, hall⟩
  · exact win_short.2 (.inl e)
  · refine win_short.2 (.inr ⟨e0, ?_⟩)
    obtain ⟨j, hj, f⟩ := free_ex hs hl hv e0
    have hc := hall j hj f
    have hss := (afterV_size s j false hj).trans hs
    rcases win_short.1 hc with e | ⟨_, i, hi, fi, hw⟩
    · refine ⟨j, hj, f, win_cut.2 (.inl (ov_one hl hss ((leS_cut j hj f).trans (leS_keep j hj f)) e))⟩
    · rw [afterV_size s j false hj] at hi
      have hfi : bt s (i : Int) = 46 := by
        rw [afterV_bt s j false hj i hi] at fi
        split at fi
        · simp at fi
        · exact fi
      refine ⟨i, hi, hfi, win_mono hl _ _ _ false (Nat.le_refl _) ?_ (validS_after (validS_after hv j false hj) i true (by rw [afterV_size s j false hj]; exact hi)) (validS_after hv i true hi) (leS_both (leS_cut j hj f) i true (by rw [afterV_size s j false hj]; exact hi)) hw⟩
      rw [afterV_size _ i true (by rw [afterV_size s j false hj]; exact hi), afterV_size s j false hj, hs]
-- The reference's winner: sets by bits, what is known by numbers.
def bitsN (p : Nat → Bool) : Nat → Nat
  | 0 => 0
  | i + 1 => if p i = true then bitsN p i ||| 2 ^ i else bitsN p i
theorem bitsN_bit (p : Nat → Bool) : ∀ n j, (bitsN p n).testBit j = (decide (j < n) && p j)
  | 0, j => by simp [bitsN]
  | n + 1, j => by
    have ih := bitsN_bit p n j
    unfold bitsN
    by_cases h : p n = true
    · rw [if_pos h, Nat.testBit_or, ih, Nat.testBit_two_pow]
      by_cases e : n = j
      · subst e; simp [h]
      · by_cases hlt : j < n
        · simp [hlt, e, Nat.lt_succ_of_lt hlt]
        · have : ¬ j < n + 1 := by omega
          simp [hlt, e, this]
    · rw [if_neg h, ih]
      by_cases e : n = j
      · subst e; simp [h]
      · by_cases hlt : j < n
        · simp [hlt, Nat.lt_succ_of_lt hlt]
        · have : ¬ j < n + 1 := by omega
          simp [hlt, this]
theorem bitsN_lt (p : Nat → Bool) : ∀ n, bitsN p n < 2 ^ n
  | 0 => by simp [bitsN]
  | n + 1 => by
    have ih := bitsN_lt p n
    have e : 2 ^ (n + 1) = 2 ^ n * 2 := Nat.pow_succ 2 n
    unfold bitsN
    split
    · exact Nat.or_lt_two_pow (by omega) (by rw [e]; have := Nat.two_pow_pos n; omega)
    · omega
theorem bitsN_congr {p q : Nat → Bool} {n : Nat} (h : ∀ i, i < n → p i = q i) : bitsN p n = bitsN q n := by
  apply Nat.eq_of_testBit_eq
  intro j
  rw [bitsN_bit, bitsN_bit]
  by_cases hj : j < n
  · rw [h j hj]
  · simp [hj]
def keptS (s : ByteArray) : Nat := bitsN (fun i => bt s (i : Int) == 115) s.size
def outS (s : ByteArray) : Nat := bitsN (fun i => bt s (i : Int) == 99) s.size
def numS (s : ByteArray) (b : Bool) : Nat := (keptS s * 2 ^ s.size + outS s) * 2 + (if b then 0 else 1)
theorem keptS_after (s : ByteArray) (j : Nat) (b : Bool) (hj : j < s.size) (hf : bt s (j : Int) = 46) : keptS (afterV s j b) = if b then keptS s ||| 2 ^ j else keptS s := by
  unfold keptS
  rw [afterV_size s j b hj]
  apply Nat.eq_of_testBit_eq
  intro x
  rw [bitsN_bit]
  cases b with
  | true =>
    rw [if_pos rfl, Nat.testBit_or, bitsN_bit, Nat.testBit_two_pow]
    by_cases hx : x < s.size
    · rw [afterV_bt s j true hj x hx]
      by_cases e : x = j
      · subst e; simp [hx]
      · rw [if_neg e]; simp [hx, Ne.symm e]
    · have : j ≠ x := by omega
      simp [hx, this]
  | false =>
    rw [if_neg (by simp), bitsN_bit]
    by_cases hx : x < s.size
    · rw [afterV_bt s j false hj x hx]
      by_cases e : x = j
      · subst e; simp [hx, hf]
      · rw [if_neg e]
    · simp [hx]
theorem outS_after (s : ByteArray) (j : Nat) (b : Bool) (hj : j < s.size) (hf : bt s (j : Int) = 46) : outS (afterV s j b) = if b then outS s else outS s ||| 2 ^ j := by
  unfold outS
  rw [afterV_size s j b hj]
  apply Nat.eq_of_testBit_eq
  intro x
  rw [bitsN_bit]
  cases b with
  | false =>
    rw [if_neg (by simp), Nat.testBit_or, bitsN_bit, Nat.testBit_two_pow]
    by_cases hx : x < s.size
    · rw [afterV_bt s j false hj x hx]
      by_cases e : x = j
      · subst e; simp [hx]
      · rw [if_neg e]; simp [hx, Ne.symm e]
    · have : j ≠ x := by omega
      simp [hx, this]
  | true =>
    rw [if_pos rfl, bitsN_bit]
    by_cases hx : x < s.size
    · rw [afterV_bt s j true hj x hx]
      by_cases e : x = j
      · subst e; simp [hx, hf]
      · rw [if_neg e]
    · simp [hx]
theorem state_ext {s t : ByteArray} (hs : s.size = t.size) (h : ∀ i : Nat, i < s.size → bt s (i : Int) = bt t (i : Int)) : s = t := by
  apply ByteArray.ext
  apply Array.ext
  · simpa using hs
  · intro i h1 h2
    have h1' : i < s.size := by simpa using h1
    have h2' : i < t.size := by simpa using h2
    have e := h i h1'
    rw [bt_get s i h1', bt_get t i h2'] at e
    have e2 : (s[i]'h1').toNat = (t[i]'h2').toNat := by omega
    exact UInt8.toNat_inj.1 e2
theorem numS_inj {s t : ByteArray} {b c : Bool} (hs : s.size = t.size) (hvs : ValidS s) (hvt : ValidS t) (h : numS s b = numS t c) : s = t ∧ b = c := by
  unfold numS at h
  have hb : b = c := by cases b <;> cases c <;> simp at h <;> first | rfl | omega
  subst hb
  have hx : keptS s * 2 ^ s.size + outS s = keptS t * 2 ^ t.size + outS t := by omega
  have o1 := bitsN_lt (fun i => bt s (i : Int) == 99) s.size
  have o2 := bitsN_lt (fun i => bt t (i : Int) == 99) t.size
  have hp : 0 < 2 ^ s.size := Nat.two_pow_pos _
  have ho : outS s = outS t := by
    have e1 : (keptS s * 2 ^ s.size + outS s) % 2 ^ s.size = outS s := by rw [Nat.mul_comm, Nat.mul_add_mod]; exact Nat.mod_eq_of_lt o1
    have e2 : (keptS t * 2 ^ t.size + outS t) % 2 ^ t.size = outS t := by rw [Nat.mul_comm, Nat.mul_add_mod]; exact Nat.mod_eq_of_lt o2
    rw [← e1, ← e2, hx, hs]
  have hk : keptS s = keptS t := by
    rw [ho, ← hs] at hx
    exact Nat.eq_of_mul_eq_mul_right hp (by omega)
  refine ⟨state_ext hs fun i hi => ?_, rfl⟩
  have k1 := congrArg (fun m => Nat.testBit m i) hk
  have k2 := congrArg (fun m => Nat.testBit m i) ho
  simp only [keptS, outS, bitsN_bit, hi, show i < t.size from by omega, decide_true, Bool.true_and] at k1 k2
  rcases hvs i hi with e | e | e <;> rcases hvt i (by omega) with f | f | f <;> rw [e, f] at k1 k2 ⊢ <;> simp at k1 k2
theorem bitN_and (m : Nat) (hm : m < 9223372036854775808) : (Go.bits .and .i64 ((m : Int) / 2) 1 = 1) ↔ m.testBit 1 = true := by
  have e : ((m : Int) / 2) = shr .i64 (m : Int) ((1 : Nat) : Int) := by simp [shr, IntKind.bits]
  rw [e, bit_nat m 1 hm (by omega)]
  split <;> simp_all
theorem specOver_ev (p : Int) (l : List (List Int)) (hl : NetEdges l) (s : ByteArray) (hs : s.size = l.length) : Ev (fun k => spec_l10Over.f k p l (keptS s : Nat) (outS s : Nat)) (ovV l s) := by
  have hn := hl.1
  have two : ∀ n, n ≤ 10 → 2 ^ n ≤ 1024 := fun n h => Nat.pow_le_pow_right (by omega) h
  have hk : keptS s < 1024 := Nat.lt_of_lt_of_le (bitsN_lt _ _) (two _ (by omega))
  have ho : outS s < 1024 := Nat.lt_of_lt_of_le (bitsN_lt _ _) (two _ (by omega))
  have hw : IntKind.u64.wrap ((l.length : Nat) : Int) = (l.length : Int) := u64_nat _ (by omega)
  obtain ⟨c1, e1, L1⟩ := reachS_ev p l hl (keptS s) 0 (by omega) (by omega)
  have h2 := two l.length hn
  have hpos := Nat.two_pow_pos l.length
  have eall : Go.bits .andNot .i64 (wrap64 ((shl .i64 1 (l.length : Int)) - 1)) ((outS s : Nat) : Int) = ((butNat (2 ^ l.length - 1) (outS s) : Nat) : Int) := by
    rw [shl_nat _ (by omega)]
    have : wrap64 (((2 ^ l.length : Nat) : Int) - 1) = ((2 ^ l.length - 1 : Nat) : Int) := by
      generalize 2 ^ l.length = z at *
      unfold wrap64; omega
    rw [this, bits_but_nat _ _ (by omega) (by omega)]
  have hbut := butNat_lt (2 ^ l.length - 1) (outS s) (by omega) (by omega)
  obtain ⟨c2, e2, L2⟩ := reachS_ev p l hl (butNat (2 ^ l.length - 1) (outS s)) 0 (by omega) (by omega)
  have r1 : c1 = reachN (fun i => bt s (i : Int) == 115) l 0 := reachN_of hl (by omega) (L1.congr fun i hi => by
    simp only [keptS, bitsN_bit, show i < s.size from by omega, decide_true, Bool.true_and])
  have r2 : c2 = reachN (fun i => bt s (i : Int) != 99) l 0 := reachN_of hl (by omega) (L2.congr fun i hi => by
    show (butNat (2 ^ l.length - 1) (outS s)).testBit i = _
    rw [butNat_bit _ _ _ (by omega) (by omega), Nat.testBit_two_pow_sub_one]
    simp only [outS, bitsN_bit, hi, show i < s.size from by omega, decide_true, Bool.true_and]
    rfl)
  unfold spec_l10Over.f
  rw [hw]
  refine Ev.congr (fun k => by rw [if_pos (by omega)]) (Ev.bind (by simpa using e1) ?_)
  have hov : ovV l s = (if c1.testBit 1 = true then 1 else if c2.testBit 1 = true then 0 else 2) := by unfold ovV; rw [r1, r2]
  rw [hov]
  by_cases d1 : c1.testBit 1 = true
  · simp only [d1, if_true]
    exact Ev.congr (f := fun _ => some 1) (fun k => by rw [if_pos ((bitN_and c1 (by have := L1.1; omega)).2 d1)]) (Ev.now _)
  · simp only [d1, if_false]
    refine Ev.congr (fun k => by rw [if_neg (fun h => d1 ((bitN_and c1 (by have := L1.1; omega)).1 h))]) ?_
    rw [eall]
    refine Ev.bind (by simpa using e2) ?_
    have hz : (Go.bits .and .i64 ((c2 : Int) / 2) 1 = 0) ↔ ¬ c2.testBit 1 = true := by
      have e : ((c2 : Int) / 2) = shr .i64 (c2 : Int) ((1 : Nat) : Int) := by simp [shr, IntKind.bits]
      rw [e, bit_nat c2 1 (by have := L2.1; omega) (by omega)]
      split <;> simp_all
    by_cases d2 : c2.testBit 1 = true
    · exact Ev.congr (f := fun _ => some 0) (fun k => by rw [if_neg (fun h => hz.1 h d2)]) (Ev.congr (fun k => by simp [d2]) (Ev.now _))
    · exact Ev.congr (f := fun _ => some 2) (fun k => by rw [if_pos (hz.2 d2)]) (Ev.congr (fun k => by simp [d2]) (Ev.now _))

end Go.Proofs.YtcjeccohlmmfoaaDoor.F
