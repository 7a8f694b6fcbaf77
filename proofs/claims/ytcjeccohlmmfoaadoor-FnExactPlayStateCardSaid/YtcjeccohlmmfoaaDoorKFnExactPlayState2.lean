-- written by the session's program xp.py over the kit's print program, and by hand; texts joined by pack.py
import Derived.Test.YtcjeccohlmmfoaaDoorKFnExactPlayState1
namespace Go.Proofs.YtcjeccohlmmfoaaDoor.F
open Go.RowKit Go.Proofs.YtcjeccohlmmfoaaDoorW.PrintWords Go.Proofs.YtcjeccohlmmfoaaDoorW.PrintLast Go.Proofs.YtcjeccohlmmfoaaDoorW.PrintMore
attribute [local go_sem] max2_int min2_int max_two min_two max_three min_three max_four min_four   -- for this text's walks alone
set_option linter.unusedVariables false
set_option linter.unusedSimpArgs false

/-! ### spec_l10Reached: function 57 -/
mutual
def spec_l10Reached.l0 : Nat → Int → Int → Bool → Int → List (List Int) → Option (Int)
 | 0, _, _, _, _, _ => none
 | k + 1, x1, x7, x8, x130000, x130001 => if x8 = true then (spec_l10Reached.l1 k x1 x7 false 0 x130000 x130001) else (some x7)
def spec_l10Reached.l1 : Nat → Int → Int → Bool → Int → Int → List (List Int) → Option (Int)
 | 0, _, _, _, _, _, _ => none
 | k + 1, x1, x7, x8, x9, x130000, x130001 => if x9 < (x130001.length : Int) then (if 0 ≤ x9 then (if 0 < ((rd_L1 x130001 x9).length : Int) then (if 0 ≤ (IntKind.u64.wrap (rd (rd_L1 x130001 x9) 0)) then (if 1 < ((rd_L1 x130001 x9).length : Int) then (if 0 ≤ (IntKind.u64.wrap (rd (rd_L1 x130001 x9) 1)) then (if 0 ≤ (IntKind.u64.wrap (x9)) then (if (Go.bits .and .i64 (shr .i64 x1 (IntKind.u64.wrap (x9))) 1) = 1 then (if (Go.bits .and .i64 (shr .i64 x7 (IntKind.u64.wrap (rd (rd_L1 x130001 x9) 0))) 1) = (Go.bits .and .i64 (shr .i64 x7 (IntKind.u64.wrap (rd (rd_L1 x130001 x9) 1))) 1) then (spec_l10Reached.l1 k x1 x7 x8 (wrap64 (x9 + 1)) x130000 x130001) else (spec_l10Reached.l1 k x1 (Go.bits .or .i64 (Go.bits .or .i64 x7 (shl .i64 1 (IntKind.u64.wrap (rd (rd_L1 x130001 x9) 0)))) (shl .i64 1 (IntKind.u64.wrap (rd (rd_L1 x130001 x9) 1)))) true (wrap64 (x9 + 1)) x130000 x130001)) else (spec_l10Reached.l1 k x1 x7 x8 (wrap64 (x9 + 1)) x130000 x130001)) else (none)) else (none)) else (none)) else (none)) else (none)) else (none)) else (spec_l10Reached.l0 k x1 x7 x8 x130000 x130001)
end
def spec_l10Reached.f (k : Nat) (a0_0 : Int) (l0_1 : List (List Int)) (a1 : Int) (a2 : Int) : Option (Int) := if 0 ≤ (IntKind.u64.wrap (a2)) then (spec_l10Reached.l0 k a1 (shl .i64 1 (IntKind.u64.wrap (a2))) true a0_0 l0_1) else (none)
set_option maxHeartbeats 8000000 in
set_option maxRecDepth 100000 in
theorem spec_l10Reached.calls (k : Nat) (a0_0 : Int) (A0_1 : Option Addr) (c0_1 : Nat) (l0_1 : List (List Int)) (a1 : Int) (a2 : Int) (r : Int) (w : World) (hr0_1 : Kd.C (Kd.slice 2 (Kd.int .i64)) w A0_1 l0_1.length l0_1) (hc0_1 : l0_1.length ≤ c0_1) (h : spec_l10Reached.f k a0_0 l0_1 a1 a2 = some r) :
  Calls Tryd.prog 57 #[.agg #[.int .i64 a0_0, .slice A0_1 l0_1.length c0_1], .int .i64 a1, .int .i64 a2] w fun e w' => e = .returned (.int .i64 r) ∧ Below w.heap.size w w' := by
 have hu28 := Tryd.underlying28
 have HR0_1 := Aside0.mk hr0_1
 have HC0_1 := Aside0.mk hc0_1
 clear hr0_1 hc0_1
 have HB := Aside0.mk (Below.refl w.heap.size w)
 have H : (if 0 ≤ (IntKind.u64.wrap (a2)) then (spec_l10Reached.l0 k a1 (shl .i64 1 (IntKind.u64.wrap (a2))) true a0_0 l0_1) else (none)) = some r := h
 clear h
 obtain ⟨ji4, hji4⟩ : ∃ j_ : Int, (IntKind.u64.wrap (a2)) = j_ := ⟨_, rfl⟩
 replace H : (if 0 ≤ (ji4) then (spec_l10Reached.l0 k a1 (shl .i64 1 (ji4)) true a0_0 l0_1) else (none)) = some r := by first | (rw [hji4] at H; exact H) | (simp only [hji4] at H ⊢; exact H)
 by_cases c5 : 0 ≤ (ji4)
 ·rw [if_pos c5] at H
  have c5b0 := eq_true c5
  have c5b1 : decide (0 ≤ (ji4)) = true := decide_eq_true c5
  clear c5
  obtain ⟨ji6, hji6⟩ : ∃ j_ : Int, (shl .i64 1 (ji4)) = j_ := ⟨_, rfl⟩
  replace H : (spec_l10Reached.l0 k a1 ji6 true a0_0 l0_1) = some r := by first | (rw [hji6] at H; exact H) | (simp only [hji6] at H ⊢; exact H)
  have hji6_ : (IntKind.i64.wrap (1 * 2 ^ min (ji4).toNat 64)) = ji6 := hji6
  have hji6z : (ji4) ≤ 64 → (IntKind.i64.wrap (1 * 2 ^ (ji4).toNat)) = ji6 := shl_small hji6
  have hji6u : (IntKind.i64.wrap (2 ^ min (ji4).toNat 64)) = ji6 := by have h_ := hji6_; rw [Int.one_mul] at h_; exact h_
  have hji6v : (ji4) ≤ 64 → (IntKind.i64.wrap (2 ^ (ji4).toNat)) = ji6 := fun hle_ => by have h_ := hji6z hle_; rw [Int.one_mul] at h_; exact h_
  have hji6y : (wrap64 (1 * 2 ^ min (ji4).toNat 64)) = ji6 := (i64_w _).symm.trans hji6_
  have hji6x : (ji4) ≤ 64 → (wrap64 (1 * 2 ^ (ji4).toNat)) = ji6 := fun h_ => (i64_w _).symm.trans (hji6z h_)
  have H' := Aside0.mk H
  clear H
  go_enter Tryd.func57, Tryd.ntmps57
  go_wp2_with (first | ((with_reducible refine gate_dst (N := 3) rfl ?_); refine box_event ?hg (N := 3) ?hd (cs := #[.int .i64 a0_0, .slice A0_1 l0_1.length c0_1]) (t := 28) ?hr ?_; (case hd => rfl); (case hg => rfl); (case hr => first | (go_simp; done) | (go_simp; rfl)); intro gb129 hg w7 hbox hb; have n0_ := Aside0.mk (below_step hb_ hb); have n1_ := Aside0.mk (hbox); have n2_ := Aside0.mk ((by rw [hg]; exact (below_size hb_) : w.heap.size ≤ gb129)); have n3_ := Aside0.mk ((by rw [hg]; exact (below_size hb_) : w.heap.size ≤ gb129)); clear HB; have HB := n0_; have BK129 := n1_; have GW129 := n2_; have GE129 := n3_; clear n0_ n1_ n2_ n3_; clear hb hbox hg))
  repeat (go_quiet (first | ((with_reducible refine gate_dst (N := 3) rfl ?_); refine box_event ?hg (N := 3) ?hd (cs := #[.int .i64 a0_0, .slice A0_1 l0_1.length c0_1]) (t := 28) ?hr ?_; (case hd => rfl); (case hg => rfl); (case hr => first | (go_simp; done) | (go_simp; rfl)); intro gb129 hg w7 hbox hb; have n0_ := Aside0.mk (below_step hb_ hb); have n1_ := Aside0.mk (hbox); have n2_ := Aside0.mk ((by rw [hg]; exact (below_size hb_) : w.heap.size ≤ gb129)); have n3_ := Aside0.mk ((by rw [hg]; exact (below_size hb_) : w.heap.size ≤ gb129)); clear HB; have HB := n0_; have BK129 := n1_; have GW129 := n2_; have GE129 := n3_; clear n0_ n1_ n2_ n3_; clear hb hbox hg)); try go_wp2_with (first | ((with_reducible refine gate_dst (N := 3) rfl ?_); refine box_event ?hg (N := 3) ?hd (cs := #[.int .i64 a0_0, .slice A0_1 l0_1.length c0_1]) (t := 28) ?hr ?_; (case hd => rfl); (case hg => rfl); (case hr => first | (go_simp; done) | (go_simp; rfl)); intro gb129 hg w7 hbox hb; have n0_ := Aside0.mk (below_step hb_ hb); have n1_ := Aside0.mk (hbox); have n2_ := Aside0.mk ((by rw [hg]; exact (below_size hb_) : w.heap.size ≤ gb129)); have n3_ := Aside0.mk ((by rw [hg]; exact (below_size hb_) : w.heap.size ≤ gb129)); clear HB; have HB := n0_; have BK129 := n1_; have GW129 := n2_; have GE129 := n3_; clear n0_ n1_ n2_ n3_; clear hb hbox hg)))
  go_loopg [7, 8] k (fun kq v7 v8 w' => ∃ (x7_1 : Int) (x8_1 : Bool), v7 = .int .i64 x7_1 ∧ v8 = .bool x8_1 ∧ Aside0 (spec_l10Reached.l0 kq a1 x7_1 x8_1 a0_0 l0_1 = some r) ∧ Aside0 (kq ≤ k) ∧ Aside0 (w'.heap[gb129]? = some (.cells #[.int .i64 a0_0, (.slice A0_1 l0_1.length c0_1)] 28 (0, 0))) ∧ Aside0 (Below w.heap.size w w'))
  case atStart => exact ⟨(ji6), (true), (by first | rfl | (simp; done) | (simp only [← hji6] <;> (first | rfl | simp)) | (simp [*]; done)), (by first | rfl | (simp; done) | (simp [*]; done)), H', ⟨Nat.le_refl _⟩, ⟨by (with_reducible repeat (first | refine blk_drewN ?_ _ | refine blk_drew ?_ | refine blk_alloc ?_ _)); exact BK129.out⟩, ⟨by repeat (first | (with_reducible first | exact HB.out | apply below_alloc | apply pw_below_drewN | apply below_drew1 | refine below_set ?_ GE129.out) | exact HB.out)⟩⟩
  case round =>
   clear H'
   (try clear p2); (try clear c5); (try clear c5b0); (try clear c5b1); (try clear p6)
   obtain ⟨x7_1, x8_1, rfl, rfl, HA, HK1, BK129, HB⟩ := hrel
   cases gk with
   | zero => exact absurd HA.out (by simp [spec_l10Reached.l0])
   | succ k1 =>
    have H := HA.out
    clear HA
    simp only [spec_l10Reached.l0] at H
    by_cases c8 : x8_1 = true
    ·subst c8
     have H1 : (spec_l10Reached.l1 k1 a1 x7_1 false 0 a0_0 l0_1) = some r := by rw [if_pos rfl] at H; exact H
     clear H
     have H := H1
     clear H1
     have H' := Aside0.mk H
     clear H
     go_wp2
     repeat (go_quiet (fail); try go_wp2)
     go_loopg [7, 8, 9] k1 (fun kq v7 v8 v9 w' => ∃ (x7_2 : Int) (x8_2 : Bool) (x9_2 : Int), v7 = .int .i64 x7_2 ∧ v8 = .bool x8_2 ∧ v9 = .int .i64 x9_2 ∧ Aside0 (spec_l10Reached.l1 kq a1 x7_2 x8_2 x9_2 a0_0 l0_1 = some r) ∧ Aside0 (kq ≤ k1) ∧ Aside0 (w'.heap[gb129]? = some (.cells #[.int .i64 a0_0, (.slice A0_1 l0_1.length c0_1)] 28 (0, 0))) ∧ Aside0 (Below w.heap.size w w'))
     case atStart => exact ⟨(x7_1), (false), (0), (by first | rfl | (simp; done) | (simp [*]; done)), (by first | rfl | (simp; done) | (simp [*]; done)), (by first | rfl | (simp; done) | (simp [*]; done)), H', ⟨Nat.le_refl _⟩, ⟨by (with_reducible repeat (first | refine blk_drewN ?_ _ | refine blk_drew ?_ | refine blk_alloc ?_ _)); exact BK129.out⟩, ⟨by repeat (first | (with_reducible first | exact HB.out | apply below_alloc | apply pw_below_drewN | apply below_drew1 | refine below_set ?_ GE129.out) | exact HB.out)⟩⟩
     case round =>
      clear H'
      (try clear p2); (try clear c5); (try clear c5b0); (try clear c5b1); (try clear p6); (try clear c8); (try clear p2); (try clear p6)
      obtain ⟨x7_2, x8_2, x9_2, rfl, rfl, rfl, HA, HK2, BK129, HB⟩ := hrel
      cases gk with
      | zero => exact absurd HA.out (by simp [spec_l10Reached.l1])
      | succ k2 =>
       have H := HA.out
       clear HA
       simp only [spec_l10Reached.l1] at H
       by_cases c9 : x9_2 < (l0_1.length : Int)
       ·rw [if_pos c9] at H
        have c9b0 : decide (x9_2 < (l0_1.length : Int)) = true := decide_eq_true c9
        clear c9
        by_cases c10 : 0 ≤ x9_2
        ·rw [if_pos c10] at H
         have c10b0 : decide (0 ≤ x9_2) = true := decide_eq_true c10
         clear c10
         by_cases c11 : 0 < ((rd_L1 l0_1 x9_2).length : Int)
         ·rw [if_pos c11] at H
          have c11b0 : decide (0 < ((rd_L1 l0_1 x9_2).length : Int)) = true := decide_eq_true c11
          have c11b1 : decide (0 < (rd_L1 l0_1 x9_2).length) = true := decide_eq_true (by omega)
          clear c11
          obtain ⟨ji12, hji12⟩ : ∃ j_ : Int, (IntKind.u64.wrap (rd (rd_L1 l0_1 x9_2) 0)) = j_ := ⟨_, rfl⟩
          replace H : (if 0 ≤ (ji12) then (if 1 < ((rd_L1 l0_1 x9_2).length : Int) then (if 0 ≤ (IntKind.u64.wrap (rd (rd_L1 l0_1 x9_2) 1)) then (if 0 ≤ (IntKind.u64.wrap (x9_2)) then (if (Go.bits .and .i64 (shr .i64 a1 (IntKind.u64.wrap (x9_2))) 1) = 1 then (if (Go.bits .and .i64 (shr .i64 x7_2 (ji12)) 1) = (Go.bits .and .i64 (shr .i64 x7_2 (IntKind.u64.wrap (rd (rd_L1 l0_1 x9_2) 1))) 1) then (spec_l10Reached.l1 k2 a1 x7_2 x8_2 (wrap64 (x9_2 + 1)) a0_0 l0_1) else (spec_l10Reached.l1 k2 a1 (Go.bits .or .i64 (Go.bits .or .i64 x7_2 (shl .i64 1 (ji12))) (shl .i64 1 (IntKind.u64.wrap (rd (rd_L1 l0_1 x9_2) 1)))) true (wrap64 (x9_2 + 1)) a0_0 l0_1)) else (spec_l10Reached.l1 k2 a1 x7_2 x8_2 (wrap64 (x9_2 + 1)) a0_0 l0_1)) else (none)) else (none)) else (none)) else (none)) = some r := by first | (rw [hji12] at H; exact H) | (simp only [hji12] at H ⊢; exact H)
          by_cases c13 : 0 ≤ (ji12)
          ·rw [if_pos c13] at H
           have c13b0 := eq_true c13
           have c13b1 : decide (0 ≤ (ji12)) = true := decide_eq_true c13
           clear c13
           obtain ⟨ji14, hji14⟩ : ∃ j_ : Int, (shr .i64 x7_2 (ji12)) = j_ := ⟨_, rfl⟩
           replace H : (if 1 < ((rd_L1 l0_1 x9_2).length : Int) then (if 0 ≤ (IntKind.u64.wrap (rd (rd_L1 l0_1 x9_2) 1)) then (if 0 ≤ (IntKind.u64.wrap (x9_2)) then (if (Go.bits .and .i64 (shr .i64 a1 (IntKind.u64.wrap (x9_2))) 1) = 1 then (if (Go.bits .and .i64 (ji14) 1) = (Go.bits .and .i64 (shr .i64 x7_2 (IntKind.u64.wrap (rd (rd_L1 l0_1 x9_2) 1))) 1) then (spec_l10Reached.l1 k2 a1 x7_2 x8_2 (wrap64 (x9_2 + 1)) a0_0 l0_1) else (spec_l10Reached.l1 k2 a1 (Go.bits .or .i64 (Go.bits .or .i64 x7_2 (shl .i64 1 (ji12))) (shl .i64 1 (IntKind.u64.wrap (rd (rd_L1 l0_1 x9_2) 1)))) true (wrap64 (x9_2 + 1)) a0_0 l0_1)) else (spec_l10Reached.l1 k2 a1 x7_2 x8_2 (wrap64 (x9_2 + 1)) a0_0 l0_1)) else (none)) else (none)) else (none)) = some r := by first | (rw [hji14] at H; exact H) | (simp only [hji14] at H ⊢; exact H)
           have hji14_ : (x7_2 / 2 ^ min (ji12).toNat 64) = ji14 := hji14
           have hji14z : (ji12) ≤ 64 → (x7_2 / 2 ^ (ji12).toNat) = ji14 := shr_small hji14
           by_cases c15 : 1 < ((rd_L1 l0_1 x9_2).length : Int)
           ·rw [if_pos c15] at H
            have c15b0 : decide (1 < ((rd_L1 l0_1 x9_2).length : Int)) = true := decide_eq_true c15
            have c15b1 : decide (1 < (rd_L1 l0_1 x9_2).length) = true := decide_eq_true (by omega)
            clear c15
            obtain ⟨ji16, hji16⟩ : ∃ j_ : Int, (IntKind.u64.wrap (rd (rd_L1 l0_1 x9_2) 1)) = j_ := ⟨_, rfl⟩
            replace H : (if 0 ≤ (ji16) then (if 0 ≤ (IntKind.u64.wrap (x9_2)) then (if (Go.bits .and .i64 (shr .i64 a1 (IntKind.u64.wrap (x9_2))) 1) = 1 then (if (Go.bits .and .i64 (ji14) 1) = (Go.bits .and .i64 (shr .i64 x7_2 (ji16)) 1) then (spec_l10Reached.l1 k2 a1 x7_2 x8_2 (wrap64 (x9_2 + 1)) a0_0 l0_1) else (spec_l10Reached.l1 k2 a1 (Go.bits .or .i64 (Go.bits .or .i64 x7_2 (shl .i64 1 (ji12))) (shl .i64 1 (ji16))) true (wrap64 (x9_2 + 1)) a0_0 l0_1)) else (spec_l10Reached.l1 k2 a1 x7_2 x8_2 (wrap64 (x9_2 + 1)) a0_0 l0_1)) else (none)) else (none)) = some r := by first | (rw [hji16] at H; exact H) | (simp only [hji16] at H ⊢; exact H)
            by_cases c17 : 0 ≤ (ji16)
            ·rw [if_pos c17] at H
             have c17b0 := eq_true c17
             have c17b1 : decide (0 ≤ (ji16)) = true := decide_eq_true c17
             clear c17
             obtain ⟨ji18, hji18⟩ : ∃ j_ : Int, (shr .i64 x7_2 (ji16)) = j_ := ⟨_, rfl⟩
             replace H : (if 0 ≤ (IntKind.u64.wrap (x9_2)) then (if (Go.bits .and .i64 (shr .i64 a1 (IntKind.u64.wrap (x9_2))) 1) = 1 then (if (Go.bits .and .i64 (ji14) 1) = (Go.bits .and .i64 (ji18) 1) then (spec_l10Reached.l1 k2 a1 x7_2 x8_2 (wrap64 (x9_2 + 1)) a0_0 l0_1) else (spec_l10Reached.l1 k2 a1 (Go.bits .or .i64 (Go.bits .or .i64 x7_2 (shl .i64 1 (ji12))) (shl .i64 1 (ji16))) true (wrap64 (x9_2 + 1)) a0_0 l0_1)) else (spec_l10Reached.l1 k2 a1 x7_2 x8_2 (wrap64 (x9_2 + 1)) a0_0 l0_1)) else (none)) = some r := by first | (rw [hji18] at H; exact H) | (simp only [hji18] at H ⊢; exact H)
             have hji18_ : (x7_2 / 2 ^ min (ji16).toNat 64) = ji18 := hji18
             have hji18z : (ji16) ≤ 64 → (x7_2 / 2 ^ (ji16).toNat) = ji18 := shr_small hji18
             obtain ⟨ji19, hji19⟩ : ∃ j_ : Int, (IntKind.u64.wrap (x9_2)) = j_ := ⟨_, rfl⟩
             replace H : (if 0 ≤ (ji19) then (if (Go.bits .and .i64 (shr .i64 a1 (ji19)) 1) = 1 then (if (Go.bits .and .i64 (ji14) 1) = (Go.bits .and .i64 (ji18) 1) then (spec_l10Reached.l1 k2 a1 x7_2 x8_2 (wrap64 (x9_2 + 1)) a0_0 l0_1) else (spec_l10Reached.l1 k2 a1 (Go.bits .or .i64 (Go.bits .or .i64 x7_2 (shl .i64 1 (ji12))) (shl .i64 1 (ji16))) true (wrap64 (x9_2 + 1)) a0_0 l0_1)) else (spec_l10Reached.l1 k2 a1 x7_2 x8_2 (wrap64 (x9_2 + 1)) a0_0 l0_1)) else (none)) = some r := by first | (rw [hji19] at H; exact H) | (simp only [hji19] at H ⊢; exact H)
             by_cases c20 : 0 ≤ (ji19)
             ·rw [if_pos c20] at H
              have c20b0 := eq_true c20
              have c20b1 : decide (0 ≤ (ji19)) = true := decide_eq_true c20
              clear c20
              obtain ⟨ji21, hji21⟩ : ∃ j_ : Int, (shr .i64 a1 (ji19)) = j_ := ⟨_, rfl⟩
              replace H : (if (Go.bits .and .i64 (ji21) 1) = 1 then (if (Go.bits .and .i64 (ji14) 1) = (Go.bits .and .i64 (ji18) 1) then (spec_l10Reached.l1 k2 a1 x7_2 x8_2 (wrap64 (x9_2 + 1)) a0_0 l0_1) else (spec_l10Reached.l1 k2 a1 (Go.bits .or .i64 (Go.bits .or .i64 x7_2 (shl .i64 1 (ji12))) (shl .i64 1 (ji16))) true (wrap64 (x9_2 + 1)) a0_0 l0_1)) else (spec_l10Reached.l1 k2 a1 x7_2 x8_2 (wrap64 (x9_2 + 1)) a0_0 l0_1)) = some r := by first | (rw [hji21] at H; exact H) | (simp only [hji21] at H ⊢; exact H)
              have hji21_ : (a1 / 2 ^ min (ji19).toNat 64) = ji21 := hji21
              have hji21z : (ji19) ≤ 64 → (a1 / 2 ^ (ji19).toNat) = ji21 := shr_small hji21
              by_cases c22 : (Go.bits .and .i64 (ji21) 1) = 1
              ·rw [if_pos c22] at H
               have c22b0 : ((Go.bits .and .i64 (ji21) 1) == 1) = true := beq_iff_eq.mpr c22
               have c22b1 : ((Go.bits .and .i64 (ji21) 1) != 1) = false := bne_eq_false_iff_eq.mpr c22
               clear c22
               by_cases c23 : (Go.bits .and .i64 (ji14) 1) = (Go.bits .and .i64 (ji18) 1)
               ·rw [if_pos c23] at H
                have c23b0 : ((Go.bits .and .i64 (ji14) 1) == (Go.bits .and .i64 (ji18) 1)) = true := beq_iff_eq.mpr c23
                have c23b1 : ((Go.bits .and .i64 (ji14) 1) != (Go.bits .and .i64 (ji18) 1)) = false := bne_eq_false_iff_eq.mpr c23
                clear c23
                have H' := Aside0.mk H
                clear H
                have hcz24_0 : wr.cell? ⟨gb129, 0, none⟩ = some (.int .i64 a0_0) := (blk_cell BK129.out 0).trans rfl
                have hcz24_1 : wr.cell? ⟨gb129, 1, none⟩ = some (.slice A0_1 l0_1.length c0_1) := (blk_cell BK129.out 1).trans rfl
                have hfz24_0 := blk_frozen BK129.out 0
                have hfz24_1 := blk_frozen BK129.out 1
                have p130 : 0 ≤ (x9_2 : Int) := oda
                have q130 : x9_2 < (l0_1.length : Int) := oda
                obtain ⟨ad130, A130_0, c130_0, e130, hx130_0, hl130_0, hi130_0⟩ := at_L1 HR0_1.out x9_2 p130 q130
                cases e130
                replace hx130_0 := (HB.out.cell (World.block_lt_of_cell? w _ hx130_0)).trans hx130_0
                have HR130_0 := Aside0.mk hi130_0
                have HC130_0 := Aside0.mk hl130_0
                clear hi130_0 hl130_0
                replace p130 := eq_true p130
                replace q130 := eq_true q130
                have p131 : 0 ≤ (0 : Int) := (by omega)
                have q131 : 0 < ((rd_L1 l0_1 x9_2).length : Int) := oda
                obtain ⟨ad131, e131, hx131_0⟩ := Kd.at_int HR130_0.out 0 p131 q131
                cases e131
                have qi131 : (0 < (rd_L1 l0_1 x9_2).length) = True := eq_true (by omega)
                (try rw [show ((0 : Int)).toNat = 0 from rfl] at hx131_0)
                (try rw [Addr.add_zero'] at hx131_0)
                replace hx131_0 := (HB.out.cell (World.block_lt_of_cell? w _ hx131_0)).trans hx131_0
                replace p131 := eq_true p131
                replace q131 := eq_true q131
                have p132 : 0 ≤ (x9_2 : Int) := oda
                have q132 : x9_2 < (l0_1.length : Int) := oda
                obtain ⟨ad132, A132_0, c132_0, e132, hx132_0, hl132_0, hi132_0⟩ := at_L1 HR0_1.out x9_2 p132 q132
                obtain rfl : ad130 = ad132 := (by injection e132)
                replace hx132_0 := (HB.out.cell (World.block_lt_of_cell? w _ hx132_0)).trans hx132_0
                have HR132_0 := Aside0.mk hi132_0
                have HC132_0 := Aside0.mk hl132_0
                clear hi132_0 hl132_0
                replace p132 := eq_true p132
                replace q132 := eq_true q132
                have ea_ := Option.some.inj (hx130_0.symm.trans hx132_0)
                injection ea_ with ea_ en_ ec_
                subst ea_
                subst ec_
                clear en_
                have p133 : 0 ≤ (1 : Int) := (by omega)
                have q133 : 1 < ((rd_L1 l0_1 x9_2).length : Int) := oda
                obtain ⟨ad133, e133, hx133_0⟩ := Kd.at_int HR132_0.out 1 p133 q133
                cases e133
                (try simp only [show (1 : Int).toNat = 1 from rfl, Nat.reduceMul, Nat.reduceEqDiff, Go.Addr.add, ↓reduceIte] at hx133_0)
                have qi133 : (1 < (rd_L1 l0_1 x9_2).length) = True := eq_true (by omega)
                (try rw [show ((1 : Int)).toNat = 1 from rfl] at hx133_0)
                replace hx133_0 := (HB.out.cell (World.block_lt_of_cell? w _ hx133_0)).trans hx133_0
                replace p133 := eq_true p133
                replace q133 := eq_true q133
                go_wp2
                repeat (go_quiet (fail); try go_wp2)
                go_roundg k2
                case measure => have := HK1.out; have := HK2.out; omega
                case rel => exact ⟨(x7_2), (x8_2), (wrap64 (x9_2 + 1)), (by first | rfl | (simp; done) | (simp [*]; done)), (by first | rfl | (simp; done) | (simp [*]; done)), (by first | rfl | (simp; done) | (simp [*]; done)), H', ⟨by have := HK1.out; have := HK2.out; omega⟩, ⟨by (with_reducible repeat (first | refine blk_drewN ?_ _ | refine blk_drew ?_ | refine blk_alloc ?_ _)); exact BK129.out⟩, ⟨by repeat (first | (with_reducible first | exact HB.out | apply below_alloc | apply pw_below_drewN | apply below_drew1 | refine below_set ?_ GE129.out) | exact HB.out)⟩⟩
               ·rw [if_neg c23] at H
                have c23b0 : ((Go.bits .and .i64 (ji14) 1) == (Go.bits .and .i64 (ji18) 1)) = false := beq_eq_false_iff_ne.mpr c23
                have c23b1 : ((Go.bits .and .i64 (ji14) 1) != (Go.bits .and .i64 (ji18) 1)) = true := bne_iff_ne.mpr c23
                have c25b0 := eq_true (oda : 0 ≤ (ji12))
                obtain ⟨ji26, hji26⟩ : ∃ j_ : Int, (shl .i64 1 (ji12)) = j_ := ⟨_, rfl⟩
                replace H : (spec_l10Reached.l1 k2 a1 (Go.bits .or .i64 (Go.bits .or .i64 x7_2 (ji26)) (shl .i64 1 (ji16))) true (wrap64 (x9_2 + 1)) a0_0 l0_1) = some r := by first | (rw [hji26] at H; exact H) | (simp only [hji26] at H ⊢; exact H)
                have hji26_ : (IntKind.i64.wrap (1 * 2 ^ min (ji12).toNat 64)) = ji26 := hji26
                have hji26z : (ji12) ≤ 64 → (IntKind.i64.wrap (1 * 2 ^ (ji12).toNat)) = ji26 := shl_small hji26
                have hji26u : (IntKind.i64.wrap (2 ^ min (ji12).toNat 64)) = ji26 := by have h_ := hji26_; rw [Int.one_mul] at h_; exact h_
                have hji26v : (ji12) ≤ 64 → (IntKind.i64.wrap (2 ^ (ji12).toNat)) = ji26 := fun hle_ => by have h_ := hji26z hle_; rw [Int.one_mul] at h_; exact h_
                have hji26y : (wrap64 (1 * 2 ^ min (ji12).toNat 64)) = ji26 := (i64_w _).symm.trans hji26_
                have hji26x : (ji12) ≤ 64 → (wrap64 (1 * 2 ^ (ji12).toNat)) = ji26 := fun h_ => (i64_w _).symm.trans (hji26z h_)
                have c27b0 := eq_true (oda : 0 ≤ (ji16))
                obtain ⟨ji28, hji28⟩ : ∃ j_ : Int, (shl .i64 1 (ji16)) = j_ := ⟨_, rfl⟩
                replace H : (spec_l10Reached.l1 k2 a1 (Go.bits .or .i64 (Go.bits .or .i64 x7_2 (ji26)) (ji28)) true (wrap64 (x9_2 + 1)) a0_0 l0_1) = some r := by first | (rw [hji28] at H; exact H) | (simp only [hji28] at H ⊢; exact H)
                have hji28_ : (IntKind.i64.wrap (1 * 2 ^ min (ji16).toNat 64)) = ji28 := hji28
                have hji28z : (ji16) ≤ 64 → (IntKind.i64.wrap (1 * 2 ^ (ji16).toNat)) = ji28 := shl_small hji28
                have hji28u : (IntKind.i64.wrap (2 ^ min (ji16).toNat 64)) = ji28 := by have h_ := hji28_; rw [Int.one_mul] at h_; exact h_
                have hji28v : (ji16) ≤ 64 → (IntKind.i64.wrap (2 ^ (ji16).toNat)) = ji28 := fun hle_ => by have h_ := hji28z hle_; rw [Int.one_mul] at h_; exact h_
                have hji28y : (wrap64 (1 * 2 ^ min (ji16).toNat 64)) = ji28 := (i64_w _).symm.trans hji28_
                have hji28x : (ji16) ≤ 64 → (wrap64 (1 * 2 ^ (ji16).toNat)) = ji28 := fun h_ => (i64_w _).symm.trans (hji28z h_)
                have H' := Aside0.mk H
                clear H
                have hcz29_0 : wr.cell? ⟨gb129, 0, none⟩ = some (.int .i64 a0_0) := (blk_cell BK129.out 0).trans rfl
                have hcz29_1 : wr.cell? ⟨gb129, 1, none⟩ = some (.slice A0_1 l0_1.length c0_1) := (blk_cell BK129.out 1).trans rfl
                have hfz29_0 := blk_frozen BK129.out 0
                have hfz29_1 := blk_frozen BK129.out 1
                have p130 : 0 ≤ (x9_2 : Int) := oda
                have q130 : x9_2 < (l0_1.length : Int) := oda
                obtain ⟨ad130, A130_0, c130_0, e130, hx130_0, hl130_0, hi130_0⟩ := at_L1 HR0_1.out x9_2 p130 q130
                cases e130
                replace hx130_0 := (HB.out.cell (World.block_lt_of_cell? w _ hx130_0)).trans hx130_0
                have HR130_0 := Aside0.mk hi130_0
                have HC130_0 := Aside0.mk hl130_0
                clear hi130_0 hl130_0
                replace p130 := eq_true p130
                replace q130 := eq_true q130
                have p131 : 0 ≤ (0 : Int) := (by omega)
                have q131 : 0 < ((rd_L1 l0_1 x9_2).length : Int) := oda
                obtain ⟨ad131, e131, hx131_0⟩ := Kd.at_int HR130_0.out 0 p131 q131
                cases e131
                have qi131 : (0 < (rd_L1 l0_1 x9_2).length) = True := eq_true (by omega)
                (try rw [show ((0 : Int)).toNat = 0 from rfl] at hx131_0)
                (try rw [Addr.add_zero'] at hx131_0)
                replace hx131_0 := (HB.out.cell (World.block_lt_of_cell? w _ hx131_0)).trans hx131_0
                replace p131 := eq_true p131
                replace q131 := eq_true q131
                have p132 : 0 ≤ (x9_2 : Int) := oda
                have q132 : x9_2 < (l0_1.length : Int) := oda
                obtain ⟨ad132, A132_0, c132_0, e132, hx132_0, hl132_0, hi132_0⟩ := at_L1 HR0_1.out x9_2 p132 q132
                obtain rfl : ad130 = ad132 := (by injection e132)
                replace hx132_0 := (HB.out.cell (World.block_lt_of_cell? w _ hx132_0)).trans hx132_0
                have HR132_0 := Aside0.mk hi132_0
                have HC132_0 := Aside0.mk hl132_0
                clear hi132_0 hl132_0
                replace p132 := eq_true p132
                replace q132 := eq_true q132
                have ea_ := Option.some.inj (hx130_0.symm.trans hx132_0)
                injection ea_ with ea_ en_ ec_
                subst ea_
                subst ec_
                clear en_
                have p133 : 0 ≤ (1 : Int) := (by omega)
                have q133 : 1 < ((rd_L1 l0_1 x9_2).length : Int) := oda
                obtain ⟨ad133, e133, hx133_0⟩ := Kd.at_int HR132_0.out 1 p133 q133
                cases e133
                (try simp only [show (1 : Int).toNat = 1 from rfl, Nat.reduceMul, Nat.reduceEqDiff, Go.Addr.add, ↓reduceIte] at hx133_0)
                have qi133 : (1 < (rd_L1 l0_1 x9_2).length) = True := eq_true (by omega)
                (try rw [show ((1 : Int)).toNat = 1 from rfl] at hx133_0)
                replace hx133_0 := (HB.out.cell (World.block_lt_of_cell? w _ hx133_0)).trans hx133_0
                replace p133 := eq_true p133
                replace q133 := eq_true q133
                have p134 : 0 ≤ (x9_2 : Int) := oda
                have q134 : x9_2 < (l0_1.length : Int) := oda
                obtain ⟨ad134, A134_0, c134_0, e134, hx134_0, hl134_0, hi134_0⟩ := at_L1 HR0_1.out x9_2 p134 q134
                obtain rfl : ad130 = ad134 := (by injection e134)
                replace hx134_0 := (HB.out.cell (World.block_lt_of_cell? w _ hx134_0)).trans hx134_0
                have HR134_0 := Aside0.mk hi134_0
                have HC134_0 := Aside0.mk hl134_0
                clear hi134_0 hl134_0
                replace p134 := eq_true p134
                replace q134 := eq_true q134
                have ea_ := Option.some.inj (hx130_0.symm.trans hx134_0)
                injection ea_ with ea_ en_ ec_
                subst ea_
                subst ec_
                clear en_
                have p135 : 0 ≤ (0 : Int) := (by omega)
                have q135 : 0 < ((rd_L1 l0_1 x9_2).length : Int) := oda
                obtain ⟨ad135, e135, hx135_0⟩ := Kd.at_int HR134_0.out 0 p135 q135
                cases e135
                have qi135 : (0 < (rd_L1 l0_1 x9_2).length) = True := eq_true (by omega)
                (try rw [show ((0 : Int)).toNat = 0 from rfl] at hx135_0)
                (try rw [Addr.add_zero'] at hx135_0)
                replace hx135_0 := (HB.out.cell (World.block_lt_of_cell? w _ hx135_0)).trans hx135_0
                replace p135 := eq_true p135
                replace q135 := eq_true q135
                have p136 : 0 ≤ (x9_2 : Int) := oda
                have q136 : x9_2 < (l0_1.length : Int) := oda
                obtain ⟨ad136, A136_0, c136_0, e136, hx136_0, hl136_0, hi136_0⟩ := at_L1 HR0_1.out x9_2 p136 q136
                obtain rfl : ad130 = ad136 := (by injection e136)
                replace hx136_0 := (HB.out.cell (World.block_lt_of_cell? w _ hx136_0)).trans hx136_0
                have HR136_0 := Aside0.mk hi136_0
                have HC136_0 := Aside0.mk hl136_0
                clear hi136_0 hl136_0
                replace p136 := eq_true p136
                replace q136 := eq_true q136
                have ea_ := Option.some.inj (hx130_0.symm.trans hx136_0)
                injection ea_ with ea_ en_ ec_
                subst ea_
                subst ec_
                clear en_
                have p137 : 0 ≤ (1 : Int) := (by omega)
                have q137 : 1 < ((rd_L1 l0_1 x9_2).length : Int) := oda
                obtain ⟨ad137, e137, hx137_0⟩ := Kd.at_int HR136_0.out 1 p137 q137
                cases e137
                (try simp only [show (1 : Int).toNat = 1 from rfl, Nat.reduceMul, Nat.reduceEqDiff, Go.Addr.add, ↓reduceIte] at hx137_0)
                have qi137 : (1 < (rd_L1 l0_1 x9_2).length) = True := eq_true (by omega)
                (try rw [show ((1 : Int)).toNat = 1 from rfl] at hx137_0)
                replace hx137_0 := (HB.out.cell (World.block_lt_of_cell? w _ hx137_0)).trans hx137_0
                replace p137 := eq_true p137
                replace q137 := eq_true q137
                go_wp2
                repeat (go_quiet (fail); try go_wp2)
                go_roundg k2
                case measure => have := HK1.out; have := HK2.out; omega
                case rel => exact ⟨(Go.bits .or .i64 (Go.bits .or .i64 x7_2 (ji26)) (ji28)), (true), (wrap64 (x9_2 + 1)), (by first | rfl | (simp; done) | (simp only [← hji26, ← hji28] <;> (first | rfl | simp)) | (simp [*]; done)), (by first | rfl | (simp; done) | (simp [*]; done)), (by first | rfl | (simp; done) | (simp [*]; done)), H', ⟨by have := HK1.out; have := HK2.out; omega⟩, ⟨by (with_reducible repeat (first | refine blk_drewN ?_ _ | refine blk_drew ?_ | refine blk_alloc ?_ _)); exact BK129.out⟩, ⟨by repeat (first | (with_reducible first | exact HB.out | apply below_alloc | apply pw_below_drewN | apply below_drew1 | refine below_set ?_ GE129.out) | exact HB.out)⟩⟩
              ·rw [if_neg c22] at H
               have c22b0 : ((Go.bits .and .i64 (ji21) 1) == 1) = false := beq_eq_false_iff_ne.mpr c22
               have c22b1 : ((Go.bits .and .i64 (ji21) 1) != 1) = true := bne_iff_ne.mpr c22
               have H' := Aside0.mk H
               clear H
               have hcz30_0 : wr.cell? ⟨gb129, 0, none⟩ = some (.int .i64 a0_0) := (blk_cell BK129.out 0).trans rfl
               have hcz30_1 : wr.cell? ⟨gb129, 1, none⟩ = some (.slice A0_1 l0_1.length c0_1) := (blk_cell BK129.out 1).trans rfl
               have hfz30_0 := blk_frozen BK129.out 0
               have hfz30_1 := blk_frozen BK129.out 1
               have p130 : 0 ≤ (x9_2 : Int) := oda
               have q130 : x9_2 < (l0_1.length : Int) := oda
               obtain ⟨ad130, A130_0, c130_0, e130, hx130_0, hl130_0, hi130_0⟩ := at_L1 HR0_1.out x9_2 p130 q130
               cases e130
               replace hx130_0 := (HB.out.cell (World.block_lt_of_cell? w _ hx130_0)).trans hx130_0
               have HR130_0 := Aside0.mk hi130_0
               have HC130_0 := Aside0.mk hl130_0
               clear hi130_0 hl130_0
               replace p130 := eq_true p130
               replace q130 := eq_true q130
               have p131 : 0 ≤ (0 : Int) := (by omega)
               have q131 : 0 < ((rd_L1 l0_1 x9_2).length : Int) := oda
               obtain ⟨ad131, e131, hx131_0⟩ := Kd.at_int HR130_0.out 0 p131 q131
               cases e131
               have qi131 : (0 < (rd_L1 l0_1 x9_2).length) = True := eq_true (by omega)
               (try rw [show ((0 : Int)).toNat = 0 from rfl] at hx131_0)
               (try rw [Addr.add_zero'] at hx131_0)
               replace hx131_0 := (HB.out.cell (World.block_lt_of_cell? w _ hx131_0)).trans hx131_0
               replace p131 := eq_true p131
               replace q131 := eq_true q131
               have p132 : 0 ≤ (x9_2 : Int) := oda
               have q132 : x9_2 < (l0_1.length : Int) := oda
               obtain ⟨ad132, A132_0, c132_0, e132, hx132_0, hl132_0, hi132_0⟩ := at_L1 HR0_1.out x9_2 p132 q132
               obtain rfl : ad130 = ad132 := (by injection e132)
               replace hx132_0 := (HB.out.cell (World.block_lt_of_cell? w _ hx132_0)).trans hx132_0
               have HR132_0 := Aside0.mk hi132_0
               have HC132_0 := Aside0.mk hl132_0
               clear hi132_0 hl132_0
               replace p132 := eq_true p132
               replace q132 := eq_true q132
               have ea_ := Option.some.inj (hx130_0.symm.trans hx132_0)
               injection ea_ with ea_ en_ ec_
               subst ea_
               subst ec_
               clear en_
               have p133 : 0 ≤ (1 : Int) := (by omega)
               have q133 : 1 < ((rd_L1 l0_1 x9_2).length : Int) := oda
               obtain ⟨ad133, e133, hx133_0⟩ := Kd.at_int HR132_0.out 1 p133 q133
               cases e133
               (try simp only [show (1 : Int).toNat = 1 from rfl, Nat.reduceMul, Nat.reduceEqDiff, Go.Addr.add, ↓reduceIte] at hx133_0)
               have qi133 : (1 < (rd_L1 l0_1 x9_2).length) = True := eq_true (by omega)
               (try rw [show ((1 : Int)).toNat = 1 from rfl] at hx133_0)
               replace hx133_0 := (HB.out.cell (World.block_lt_of_cell? w _ hx133_0)).trans hx133_0
               replace p133 := eq_true p133
               replace q133 := eq_true q133
               go_wp2
               repeat (go_quiet (fail); try go_wp2)
               go_roundg k2
               case measure => have := HK1.out; have := HK2.out; omega
               case rel => exact ⟨(x7_2), (x8_2), (wrap64 (x9_2 + 1)), (by first | rfl | (simp; done) | (simp [*]; done)), (by first | rfl | (simp; done) | (simp [*]; done)), (by first | rfl | (simp; done) | (simp [*]; done)), H', ⟨by have := HK1.out; have := HK2.out; omega⟩, ⟨by (with_reducible repeat (first | refine blk_drewN ?_ _ | refine blk_drew ?_ | refine blk_alloc ?_ _)); exact BK129.out⟩, ⟨by repeat (first | (with_reducible first | exact HB.out | apply below_alloc | apply pw_below_drewN | apply below_drew1 | refine below_set ?_ GE129.out) | exact HB.out)⟩⟩
             ·rw [if_neg c20] at H
              exact absurd H (by simp)
            ·rw [if_neg c17] at H
             exact absurd H (by simp)
           ·rw [if_neg c15] at H
            exact absurd H (by simp)
          ·rw [if_neg c13] at H
           exact absurd H (by simp)
         ·rw [if_neg c11] at H
          exact absurd H (by simp)
        ·rw [if_neg c10] at H
         exact absurd H (by simp)
       ·rw [if_neg c9] at H
        have c9b0 : decide (x9_2 < (l0_1.length : Int)) = false := decide_eq_false c9
        clear c9
        have H' := Aside0.mk H
        clear H
        have hcz31_0 : wr.cell? ⟨gb129, 0, none⟩ = some (.int .i64 a0_0) := (blk_cell BK129.out 0).trans rfl
        have hcz31_1 : wr.cell? ⟨gb129, 1, none⟩ = some (.slice A0_1 l0_1.length c0_1) := (blk_cell BK129.out 1).trans rfl
        have hfz31_0 := blk_frozen BK129.out 0
        have hfz31_1 := blk_frozen BK129.out 1
        go_wp2
        repeat (go_quiet (fail); try go_wp2)
        go_roundg k2
        case measure => have := HK1.out; have := HK2.out; omega
        case rel => exact ⟨(x7_2), (x8_2), (by first | rfl | (simp; done) | (simp [*]; done)), (by first | rfl | (simp; done) | (simp [*]; done)), H', ⟨by have := HK1.out; have := HK2.out; omega⟩, ⟨by (with_reducible repeat (first | refine blk_drewN ?_ _ | refine blk_drew ?_ | refine blk_alloc ?_ _)); exact BK129.out⟩, ⟨by repeat (first | (with_reducible first | exact HB.out | apply below_alloc | apply pw_below_drewN | apply below_drew1 | refine below_set ?_ GE129.out) | exact HB.out)⟩⟩
    ·replace c8 := Bool.eq_false_iff.mpr c8
     subst c8
     have H1 : (some x7_1) = some r := by rw [if_neg (show ¬ (false = true) by decide)] at H; exact H
     clear H
     have H := H1
     clear H1
     obtain rfl := Option.some.inj H
     go_wp2
     repeat (go_quiet (fail); try go_wp2)
     go_ret
     exact ⟨by first | rfl | (simp [errW_none, errW_some] <;> rfl) | (simp only [← hji4, ← hji6]; first | rfl | (simp [errW_none, errW_some] <;> rfl)) | (simp [*, errW_none, errW_some] <;> rfl), by repeat (first | (with_reducible first | exact HB.out | apply below_alloc | apply pw_below_drewN | apply below_drew1 | refine below_set ?_ GE129.out) | exact HB.out)⟩
 ·rw [if_neg c5] at H
  exact absurd H (by simp)
/-! ### spec_l10Over: function 33 -/
def spec_l10Over.f (k : Nat) (a0_0 : Int) (l0_1 : List (List Int)) (a1 : Int) (a2 : Int) : Option (Int) := if 0 ≤ (IntKind.u64.wrap ((l0_1.length : Int))) then ((spec_l10Reached.f k a0_0 l0_1 a1 0).bind fun t139 => (if (Go.bits .and .i64 (t139 / 2) 1) = 1 then (some 1) else ((spec_l10Reached.f k a0_0 l0_1 (Go.bits .andNot .i64 (wrap64 ((shl .i64 1 (IntKind.u64.wrap ((l0_1.length : Int)))) - 1)) a2) 0).bind fun t140 => (if (Go.bits .and .i64 (t140 / 2) 1) = 0 then (some 2) else (some 0))))) else (none)
set_option maxHeartbeats 8000000 in
set_option maxRecDepth 100000 in
theorem spec_l10Over.calls (k : Nat) (a0_0 : Int) (A0_1 : Option Addr) (c0_1 : Nat) (l0_1 : List (List Int)) (a1 : Int) (a2 : Int) (r : Int) (w : World) (hr0_1 : Kd.C (Kd.slice 2 (Kd.int .i64)) w A0_1 l0_1.length l0_1) (hc0_1 : l0_1.length ≤ c0_1) (h : spec_l10Over.f k a0_0 l0_1 a1 a2 = some r) :
  Calls Tryd.prog 33 #[.agg #[.int .i64 a0_0, .slice A0_1 l0_1.length c0_1], .int .i64 a1, .int .i64 a2] w fun e w' => e = .returned (.int .i64 r) ∧ Below w.heap.size w w' := by
 have hu28 := Tryd.underlying28
 have HR0_1 := Aside0.mk hr0_1
 have HC0_1 := Aside0.mk hc0_1
 clear hr0_1 hc0_1
 have HB := Aside0.mk (Below.refl w.heap.size w)
 have H : (if 0 ≤ (IntKind.u64.wrap ((l0_1.length : Int))) then ((spec_l10Reached.f k a0_0 l0_1 a1 0).bind fun t139 => (if (Go.bits .and .i64 (t139 / 2) 1) = 1 then (some 1) else ((spec_l10Reached.f k a0_0 l0_1 (Go.bits .andNot .i64 (wrap64 ((shl .i64 1 (IntKind.u64.wrap ((l0_1.length : Int)))) - 1)) a2) 0).bind fun t140 => (if (Go.bits .and .i64 (t140 / 2) 1) = 0 then (some 2) else (some 0))))) else (none)) = some r := h
 clear h
 obtain ⟨ji4, hji4⟩ : ∃ j_ : Int, (IntKind.u64.wrap ((l0_1.length : Int))) = j_ := ⟨_, rfl⟩
 replace H : (if 0 ≤ (ji4) then ((spec_l10Reached.f k a0_0 l0_1 a1 0).bind fun t139 => (if (Go.bits .and .i64 (t139 / 2) 1) = 1 then (some 1) else ((spec_l10Reached.f k a0_0 l0_1 (Go.bits .andNot .i64 (wrap64 ((shl .i64 1 (ji4)) - 1)) a2) 0).bind fun t140 => (if (Go.bits .and .i64 (t140 / 2) 1) = 0 then (some 2) else (some 0))))) else (none)) = some r := by first | (rw [hji4] at H; exact H) | (simp only [hji4] at H ⊢; exact H)
 by_cases c5 : 0 ≤ (ji4)
 ·rw [if_pos c5] at H
  have c5b0 := eq_true c5
  have c5b1 : decide (0 ≤ (ji4)) = true := decide_eq_true c5
  clear c5
  obtain ⟨ji6, hji6⟩ : ∃ j_ : Int, (shl .i64 1 (ji4)) = j_ := ⟨_, rfl⟩
  replace H : ((spec_l10Reached.f k a0_0 l0_1 a1 0).bind fun t139 => (if (Go.bits .and .i64 (t139 / 2) 1) = 1 then (some 1) else ((spec_l10Reached.f k a0_0 l0_1 (Go.bits .andNot .i64 (wrap64 ((ji6) - 1)) a2) 0).bind fun t140 => (if (Go.bits .and .i64 (t140 / 2) 1) = 0 then (some 2) else (some 0))))) = some r := by first | (rw [hji6] at H; exact H) | (simp only [hji6] at H ⊢; exact H)
  have hji6_ : (IntKind.i64.wrap (1 * 2 ^ min (ji4).toNat 64)) = ji6 := hji6
  have hji6z : (ji4) ≤ 64 → (IntKind.i64.wrap (1 * 2 ^ (ji4).toNat)) = ji6 := shl_small hji6
  have hji6u : (IntKind.i64.wrap (2 ^ min (ji4).toNat 64)) = ji6 := by have h_ := hji6_; rw [Int.one_mul] at h_; exact h_
  have hji6v : (ji4) ≤ 64 → (IntKind.i64.wrap (2 ^ (ji4).toNat)) = ji6 := fun hle_ => by have h_ := hji6z hle_; rw [Int.one_mul] at h_; exact h_
  have hji6y : (wrap64 (1 * 2 ^ min (ji4).toNat 64)) = ji6 := (i64_w _).symm.trans hji6_
  have hji6x : (ji4) ≤ 64 → (wrap64 (1 * 2 ^ (ji4).toNat)) = ji6 := fun h_ => (i64_w _).symm.trans (hji6z h_)
  replace H := Option.bind_eq_some_iff.mp H
  obtain ⟨t139, A70, H⟩ := H
  replace H : (if (Go.bits .and .i64 (t139 / 2) 1) = 1 then (some 1) else ((spec_l10Reached.f k a0_0 l0_1 (Go.bits .andNot .i64 (wrap64 ((ji6) - 1)) a2) 0).bind fun t140 => (if (Go.bits .and .i64 (t140 / 2) 1) = 0 then (some 2) else (some 0)))) = some r := H
  have A7 := Aside0.mk A70
  clear A70
  by_cases c8 : (Go.bits .and .i64 (t139 / 2) 1) = 1
  ·rw [if_pos c8] at H
   have c8b0 : ((Go.bits .and .i64 (t139 / 2) 1) == 1) = true := beq_iff_eq.mpr c8
   have c8b1 : ((Go.bits .and .i64 (t139 / 2) 1) != 1) = false := bne_eq_false_iff_eq.mpr c8
   clear c8
   obtain rfl := Option.some.inj H
   go_enter Tryd.func33, Tryd.ntmps33
   go_wp2_with (first | ((with_reducible refine gate_dst (N := 3) rfl ?_); refine box_event ?hg (N := 3) ?hd (cs := #[.int .i64 a0_0, .slice A0_1 l0_1.length c0_1]) (t := 28) ?hr ?_; (case hd => rfl); (case hg => rfl); (case hr => first | (go_simp; done) | (go_simp; rfl)); intro gb138 hg w9 hbox hb; have n0_ := Aside0.mk (below_step hb_ hb); have n1_ := Aside0.mk (hbox); have n2_ := Aside0.mk ((by rw [hg]; exact (below_size hb_) : w.heap.size ≤ gb138)); have n3_ := Aside0.mk ((by rw [hg]; exact (below_size hb_) : w.heap.size ≤ gb138)); clear HB; have HB := n0_; have BK138 := n1_; have GW138 := n2_; have GE138 := n3_; clear n0_ n1_ n2_ n3_; clear hb hbox hg; have hcz10_0 : w9.cell? ⟨gb138, 0, none⟩ = some (.int .i64 a0_0) := (blk_cell BK138.out 0).trans rfl; have hcz10_1 : w9.cell? ⟨gb138, 1, none⟩ = some (.slice A0_1 l0_1.length c0_1) := (blk_cell BK138.out 1).trans rfl; have hfz10_0 := blk_frozen BK138.out 0; have hfz10_1 := blk_frozen BK138.out 1) | ((with_reducible refine gate_callee (f := 57) rfl ?_); refine goesA_ (some 17) rfl rfl Tryd.func57 (by kernel_rfl) rfl #[.agg #[.int .i64 a0_0, .slice A0_1 l0_1.length c0_1], .int .i64 a1, .int .i64 0] rfl ?_; (with_reducible refine (spec_l10Reached.calls k a0_0 _ _ l0_1 a1 0 t139 _ ?side1 ?side2 A7.out).mono ?_); (case side1 => repeat (first | exact (Kd.C_below HR0_1.out HB.out) | (with_reducible refine Kd.C_alloc ?_ _) | (with_reducible refine Kd.C_drewN ?_ _) | (with_reducible refine Kd.C_drew ?_))); (case side2 => exact HC0_1.out); rintro e w11 ⟨rfl, hb⟩; refine ⟨_, rfl, ?_⟩; have n0_ := Aside0.mk (blk_below (g := gb138) (o := .cells #[.int .i64 a0_0, .slice A0_1 l0_1.length c0_1] 28 (0, 0)) (by (with_reducible repeat (first | refine blk_drewN ?_ _ | refine blk_drew ?_ | refine blk_alloc ?_ _)); exact BK138.out) hb); have n1_ := Aside0.mk (below_step (by repeat (first | (with_reducible first | exact HB.out | apply below_alloc | apply pw_below_drewN | apply below_drew1 | refine below_set ?_ GE138.out) | exact HB.out)) hb); clear BK138; clear HB; have BK138 := n0_; have HB := n1_; clear n0_ n1_; (try clear hb); (try clear hb2); (try clear hk); (try clear hi)))
   go_ret
   exact ⟨by first | rfl | (simp [errW_none, errW_some] <;> rfl) | (simp only [← hji4, ← hji6]; first | rfl | (simp [errW_none, errW_some] <;> rfl)) | (simp [*, errW_none, errW_some] <;> rfl), by repeat (first | (with_reducible first | exact HB.out | apply below_alloc | apply pw_below_drewN | apply below_drew1 | refine below_set ?_ GE138.out) | exact HB.out)⟩
  ·rw [if_neg c8] at H
   have c8b0 : ((Go.bits .and .i64 (t139 / 2) 1) == 1) = false := beq_eq_false_iff_ne.mpr c8
   have c8b1 : ((Go.bits .and .i64 (t139 / 2) 1) != 1) = true := bne_iff_ne.mpr c8
   replace H := Option.bind_eq_some_iff.mp H
   obtain ⟨t140, A120, H⟩ := H
   replace H : (if (Go.bits .and .i64 (t140 / 2) 1) = 0 then (some 2) else (some 0)) = some r := H
   have A12 := Aside0.mk A120
   clear A120
   by_cases c13 : (Go.bits .and .i64 (t140 / 2) 1) = 0
   ·rw [if_pos c13] at H
    have c13b0 : ((Go.bits .and .i64 (t140 / 2) 1) == 0) = true := beq_iff_eq.mpr c13
    have c13b1 : ((Go.bits .and .i64 (t140 / 2) 1) != 0) = false := bne_eq_false_iff_eq.mpr c13
    clear c13
    obtain rfl := Option.some.inj H
    go_enter Tryd.func33, Tryd.ntmps33
    go_wp2_with (first | ((with_reducible refine gate_dst (N := 3) rfl ?_); refine box_event ?hg (N := 3) ?hd (cs := #[.int .i64 a0_0, .slice A0_1 l0_1.length c0_1]) (t := 28) ?hr ?_; (case hd => rfl); (case hg => rfl); (case hr => first | (go_simp; done) | (go_simp; rfl)); intro gb138 hg w14 hbox hb; have n0_ := Aside0.mk (below_step hb_ hb); have n1_ := Aside0.mk (hbox); have n2_ := Aside0.mk ((by rw [hg]; exact (below_size hb_) : w.heap.size ≤ gb138)); have n3_ := Aside0.mk ((by rw [hg]; exact (below_size hb_) : w.heap.size ≤ gb138)); clear HB; have HB := n0_; have BK138 := n1_; have GW138 := n2_; have GE138 := n3_; clear n0_ n1_ n2_ n3_; clear hb hbox hg; have hcz15_0 : w14.cell? ⟨gb138, 0, none⟩ = some (.int .i64 a0_0) := (blk_cell BK138.out 0).trans rfl; have hcz15_1 : w14.cell? ⟨gb138, 1, none⟩ = some (.slice A0_1 l0_1.length c0_1) := (blk_cell BK138.out 1).trans rfl; have hfz15_0 := blk_frozen BK138.out 0; have hfz15_1 := blk_frozen BK138.out 1) | ((with_reducible refine gate_callee (f := 57) rfl ?_); refine goesA_ (some 17) rfl rfl Tryd.func57 (by kernel_rfl) rfl #[.agg #[.int .i64 a0_0, .slice A0_1 l0_1.length c0_1], .int .i64 a1, .int .i64 0] rfl ?_; (with_reducible refine (spec_l10Reached.calls k a0_0 _ _ l0_1 a1 0 t139 _ ?side1 ?side2 A7.out).mono ?_); (case side1 => repeat (first | exact (Kd.C_below HR0_1.out HB.out) | (with_reducible refine Kd.C_alloc ?_ _) | (with_reducible refine Kd.C_drewN ?_ _) | (with_reducible refine Kd.C_drew ?_))); (case side2 => exact HC0_1.out); rintro e w16 ⟨rfl, hb⟩; refine ⟨_, rfl, ?_⟩; have n0_ := Aside0.mk (blk_below (g := gb138) (o := .cells #[.int .i64 a0_0, .slice A0_1 l0_1.length c0_1] 28 (0, 0)) (by (with_reducible repeat (first | refine blk_drewN ?_ _ | refine blk_drew ?_ | refine blk_alloc ?_ _)); exact BK138.out) hb); have n1_ := Aside0.mk (below_step (by repeat (first | (with_reducible first | exact HB.out | apply below_alloc | apply pw_below_drewN | apply below_drew1 | refine below_set ?_ GE138.out) | exact HB.out)) hb); clear BK138; clear HB; have BK138 := n0_; have HB := n1_; clear n0_ n1_; (try clear hb); (try clear hb2); (try clear hk); (try clear hi); have hcz17_0 : w16.cell? ⟨gb138, 0, none⟩ = some (.int .i64 a0_0) := (blk_cell BK138.out 0).trans rfl; have hcz17_1 : w16.cell? ⟨gb138, 1, none⟩ = some (.slice A0_1 l0_1.length c0_1) := (blk_cell BK138.out 1).trans rfl; have hfz17_0 := blk_frozen BK138.out 0; have hfz17_1 := blk_frozen BK138.out 1) | ((with_reducible refine gate_callee (f := 57) rfl ?_); refine goesL_ (some 26) rfl rfl Tryd.func57 (by kernel_rfl) rfl #[.agg #[.int .i64 a0_0, .slice A0_1 l0_1.length c0_1], .int .i64 (Go.bits .andNot .i64 (wrap64 ((ji6) - 1)) a2), .int .i64 0] rfl (by (try simp only [List.map_toArray, List.map_cons, List.map_nil]); first | done | (simp only [hji6]; rfl) | rfl | (simp only [List.length_drop, List.length_take]; rfl)) ?_; (with_reducible refine (spec_l10Reached.calls k a0_0 _ _ l0_1 (Go.bits .andNot .i64 (wrap64 ((ji6) - 1)) a2) 0 t140 _ ?side1 ?side2 A12.out).mono ?_); (case side1 => repeat (first | exact (Kd.C_below HR0_1.out HB.out) | (with_reducible refine Kd.C_alloc ?_ _) | (with_reducible refine Kd.C_drewN ?_ _) | (with_reducible refine Kd.C_drew ?_))); (case side2 => exact HC0_1.out); rintro e w18 ⟨rfl, hb⟩; refine ⟨_, rfl, ?_⟩; have n0_ := Aside0.mk (blk_below (g := gb138) (o := .cells #[.int .i64 a0_0, .slice A0_1 l0_1.length c0_1] 28 (0, 0)) (by (with_reducible repeat (first | refine blk_drewN ?_ _ | refine blk_drew ?_ | refine blk_alloc ?_ _)); exact BK138.out) hb); have n1_ := Aside0.mk (below_step (by repeat (first | (with_reducible first | exact HB.out | apply below_alloc | apply pw_below_drewN | apply below_drew1 | refine below_set ?_ GE138.out) | exact HB.out)) hb); clear BK138; clear HB; have BK138 := n0_; have HB := n1_; clear n0_ n1_; (try clear hb); (try clear hb2); (try clear hk); (try clear hi)))
    go_ret
    exact ⟨by first | rfl | (simp [errW_none, errW_some] <;> rfl) | (simp only [← hji4, ← hji6]; first | rfl | (simp [errW_none, errW_some] <;> rfl)) | (simp [*, errW_none, errW_some] <;> rfl), by repeat (first | (with_reducible first | exact HB.out | apply below_alloc | apply pw_below_drewN | apply below_drew1 | refine below_set ?_ GE138.out) | exact HB.out)⟩
   ·rw [if_neg c13] at H
    have c13b0 : ((Go.bits .and .i64 (t140 / 2) 1) == 0) = false := beq_eq_false_iff_ne.mpr c13
    have c13b1 : ((Go.bits .and .i64 (t140 / 2) 1) != 0) = true := bne_iff_ne.mpr c13
    obtain rfl := Option.some.inj H
    go_enter Tryd.func33, Tryd.ntmps33
    go_wp2_with (first | ((with_reducible refine gate_dst (N := 3) rfl ?_); refine box_event ?hg (N := 3) ?hd (cs := #[.int .i64 a0_0, .slice A0_1 l0_1.length c0_1]) (t := 28) ?hr ?_; (case hd => rfl); (case hg => rfl); (case hr => first | (go_simp; done) | (go_simp; rfl)); intro gb138 hg w19 hbox hb; have n0_ := Aside0.mk (below_step hb_ hb); have n1_ := Aside0.mk (hbox); have n2_ := Aside0.mk ((by rw [hg]; exact (below_size hb_) : w.heap.size ≤ gb138)); have n3_ := Aside0.mk ((by rw [hg]; exact (below_size hb_) : w.heap.size ≤ gb138)); clear HB; have HB := n0_; have BK138 := n1_; have GW138 := n2_; have GE138 := n3_; clear n0_ n1_ n2_ n3_; clear hb hbox hg; have hcz20_0 : w19.cell? ⟨gb138, 0, none⟩ = some (.int .i64 a0_0) := (blk_cell BK138.out 0).trans rfl; have hcz20_1 : w19.cell? ⟨gb138, 1, none⟩ = some (.slice A0_1 l0_1.length c0_1) := (blk_cell BK138.out 1).trans rfl; have hfz20_0 := blk_frozen BK138.out 0; have hfz20_1 := blk_frozen BK138.out 1) | ((with_reducible refine gate_callee (f := 57) rfl ?_); refine goesA_ (some 17) rfl rfl Tryd.func57 (by kernel_rfl) rfl #[.agg #[.int .i64 a0_0, .slice A0_1 l0_1.length c0_1], .int .i64 a1, .int .i64 0] rfl ?_; (with_reducible refine (spec_l10Reached.calls k a0_0 _ _ l0_1 a1 0 t139 _ ?side1 ?side2 A7.out).mono ?_); (case side1 => repeat (first | exact (Kd.C_below HR0_1.out HB.out) | (with_reducible refine Kd.C_alloc ?_ _) | (with_reducible refine Kd.C_drewN ?_ _) | (with_reducible refine Kd.C_drew ?_))); (case side2 => exact HC0_1.out); rintro e w21 ⟨rfl, hb⟩; refine ⟨_, rfl, ?_⟩; have n0_ := Aside0.mk (blk_below (g := gb138) (o := .cells #[.int .i64 a0_0, .slice A0_1 l0_1.length c0_1] 28 (0, 0)) (by (with_reducible repeat (first | refine blk_drewN ?_ _ | refine blk_drew ?_ | refine blk_alloc ?_ _)); exact BK138.out) hb); have n1_ := Aside0.mk (below_step (by repeat (first | (with_reducible first | exact HB.out | apply below_alloc | apply pw_below_drewN | apply below_drew1 | refine below_set ?_ GE138.out) | exact HB.out)) hb); clear BK138; clear HB; have BK138 := n0_; have HB := n1_; clear n0_ n1_; (try clear hb); (try clear hb2); (try clear hk); (try clear hi); have hcz22_0 : w21.cell? ⟨gb138, 0, none⟩ = some (.int .i64 a0_0) := (blk_cell BK138.out 0).trans rfl; have hcz22_1 : w21.cell? ⟨gb138, 1, none⟩ = some (.slice A0_1 l0_1.length c0_1) := (blk_cell BK138.out 1).trans rfl; have hfz22_0 := blk_frozen BK138.out 0; have hfz22_1 := blk_frozen BK138.out 1) | ((with_reducible refine gate_callee (f := 57) rfl ?_); refine goesL_ (some 26) rfl rfl Tryd.func57 (by kernel_rfl) rfl #[.agg #[.int .i64 a0_0, .slice A0_1 l0_1.length c0_1], .int .i64 (Go.bits .andNot .i64 (wrap64 ((ji6) - 1)) a2), .int .i64 0] rfl (by (try simp only [List.map_toArray, List.map_cons, List.map_nil]); first | done | (simp only [hji6]; rfl) | rfl | (simp only [List.length_drop, List.length_take]; rfl)) ?_; (with_reducible refine (spec_l10Reached.calls k a0_0 _ _ l0_1 (Go.bits .andNot .i64 (wrap64 ((ji6) - 1)) a2) 0 t140 _ ?side1 ?side2 A12.out).mono ?_); (case side1 => repeat (first | exact (Kd.C_below HR0_1.out HB.out) | (with_reducible refine Kd.C_alloc ?_ _) | (with_reducible refine Kd.C_drewN ?_ _) | (with_reducible refine Kd.C_drew ?_))); (case side2 => exact HC0_1.out); rintro e w23 ⟨rfl, hb⟩; refine ⟨_, rfl, ?_⟩; have n0_ := Aside0.mk (blk_below (g := gb138) (o := .cells #[.int .i64 a0_0, .slice A0_1 l0_1.length c0_1] 28 (0, 0)) (by (with_reducible repeat (first | refine blk_drewN ?_ _ | refine blk_drew ?_ | refine blk_alloc ?_ _)); exact BK138.out) hb); have n1_ := Aside0.mk (below_step (by repeat (first | (with_reducible first | exact HB.out | apply below_alloc | apply pw_below_drewN | apply below_drew1 | refine below_set ?_ GE138.out) | exact HB.out)) hb); clear BK138; clear HB; have BK138 := n0_; have HB := n1_; clear n0_ n1_; (try clear hb); (try clear hb2); (try clear hk); (try clear hi)))
    go_ret
    exact ⟨by first | rfl | (simp [errW_none, errW_some] <;> rfl) | (simp only [← hji4, ← hji6]; first | rfl | (simp [errW_none, errW_some] <;> rfl)) | (simp [*, errW_none, errW_some] <;> rfl), by repeat (first | (with_reducible first | exact HB.out | apply below_alloc | apply pw_below_drewN | apply below_drew1 | refine below_set ?_ GE138.out) | exact HB.out)⟩
 ·rw [if_neg c5] at H
  exact absurd H (by simp)
/-! ### spec_l10Mover: function 39 -/
def spec_l10Mover.f (a0 : Bool) : Option (Int) := if a0 = true then (some 1) else (some 2)
set_option maxHeartbeats 8000000 in
set_option maxRecDepth 100000 in
theorem spec_l10Mover.calls (a0 : Bool) (r : Int) (w : World) (h : spec_l10Mover.f a0 = some r) :
  Calls Tryd.prog 39 #[.bool a0] w fun e w' => e = .returned (.int .i64 r) ∧ Drawn0 w w' := by
 have H : (if a0 = true then (some 1) else (some 2)) = some r := h
 clear h
 by_cases c2 : a0 = true
 ·subst c2
  have H1 : (some 1) = some r := by rw [if_pos rfl] at H; exact H
  clear H
  have H := H1
  clear H1
  obtain rfl := Option.some.inj H
  go_enter Tryd.func39, Tryd.ntmps39
  go_wp2
  go_ret
  exact ⟨by first | rfl | (simp; done) | (simp [*]; done), by repeat (first | exact Drawn0.refl _ | apply Drawn0.step)⟩
 ·replace c2 := Bool.eq_false_iff.mpr c2
  subst c2
  have H1 : (some 2) = some r := by rw [if_neg (show ¬ (false = true) by decide)] at H; exact H
  clear H
  have H := H1
  clear H1
  obtain rfl := Option.some.inj H
  go_enter Tryd.func39, Tryd.ntmps39
  go_wp2
  go_ret
  exact ⟨by first | rfl | (simp; done) | (simp [*]; done), by repeat (first | exact Drawn0.refl _ | apply Drawn0.step)⟩
/-! ### spec_l10Known: function 40 -/
def spec_l10Known.f (a0_0 : Int) (l0_1 : List (List Int)) : Option (List Int) := if 0 ≤ (IntKind.u64.wrap (wrap64 (2 * (l0_1.length : Int)))) then (if 0 ≤ (shl .i64 2 (IntKind.u64.wrap (wrap64 (2 * (l0_1.length : Int))))) then (if (shl .i64 2 (IntKind.u64.wrap (wrap64 (2 * (l0_1.length : Int)))) : Int).toNat ≤ 35184372088832 then (some (List.replicate (shl .i64 2 (IntKind.u64.wrap (wrap64 (2 * (l0_1.length : Int)))) : Int).toNat 0)) else (none)) else (none)) else (none)
set_option maxHeartbeats 8000000 in
set_option maxRecDepth 100000 in
theorem spec_l10Known.calls (a0_0 : Int) (A0_1 : Option Addr) (c0_1 : Nat) (l0_1 : List (List Int)) (r : List Int) (w : World) (hr0_1 : Kd.C (Kd.slice 2 (Kd.int .i64)) w A0_1 l0_1.length l0_1) (hc0_1 : l0_1.length ≤ c0_1) (h : spec_l10Known.f a0_0 l0_1 = some r) :
  Calls Tryd.prog 40 #[.agg #[.int .i64 a0_0, .slice A0_1 l0_1.length c0_1]] w fun e w' => ∃ v0_ : Value, e = .returned (v0_) ∧ Kd.R (Kd.int .i64) 2 w' w.heap.size (fun _ => True) v0_ r ∧ Below w.heap.size w w' := by
 have hu28 := Tryd.underlying28
 have HR0_1 := Aside0.mk hr0_1
 have HC0_1 := Aside0.mk hc0_1
 clear hr0_1 hc0_1
 have HB := Aside0.mk (Below.refl w.heap.size w)
 have H : (if 0 ≤ (IntKind.u64.wrap (wrap64 (2 * (l0_1.length : Int)))) then (if 0 ≤ (shl .i64 2 (IntKind.u64.wrap (wrap64 (2 * (l0_1.length : Int))))) then (if (shl .i64 2 (IntKind.u64.wrap (wrap64 (2 * (l0_1.length : Int)))) : Int).toNat ≤ 35184372088832 then (some (List.replicate (shl .i64 2 (IntKind.u64.wrap (wrap64 (2 * (l0_1.length : Int)))) : Int).toNat 0)) else (none)) else (none)) else (none)) = some r := h
 clear h
 obtain ⟨ji2, hji2⟩ : ∃ j_ : Int, (IntKind.u64.wrap (wrap64 (2 * (l0_1.length : Int)))) = j_ := ⟨_, rfl⟩
 replace H : (if 0 ≤ (ji2) then (if 0 ≤ (shl .i64 2 (ji2)) then (if (shl .i64 2 (ji2) : Int).toNat ≤ 35184372088832 then (some (List.replicate (shl .i64 2 (ji2) : Int).toNat 0)) else (none)) else (none)) else (none)) = some r := by first | (rw [hji2] at H; exact H) | (simp only [hji2] at H ⊢; exact H)
 by_cases c3 : 0 ≤ (ji2)
 ·rw [if_pos c3] at H
  have c3b0 := eq_true c3
  have c3b1 : decide (0 ≤ (ji2)) = true := decide_eq_true c3
  clear c3
  obtain ⟨ji4, hji4⟩ : ∃ j_ : Int, (shl .i64 2 (ji2)) = j_ := ⟨_, rfl⟩
  replace H : (if 0 ≤ (ji4) then (if (ji4 : Int).toNat ≤ 35184372088832 then (some (List.replicate (ji4 : Int).toNat 0)) else (none)) else (none)) = some r := by first | (rw [hji4] at H; exact H) | (simp only [hji4] at H ⊢; exact H)
  have hji4_ : (IntKind.i64.wrap (2 * 2 ^ min (ji2).toNat 64)) = ji4 := hji4
  have hji4z : (ji2) ≤ 64 → (IntKind.i64.wrap (2 * 2 ^ (ji2).toNat)) = ji4 := shl_small hji4
  have hji4y : (wrap64 (2 * 2 ^ min (ji2).toNat 64)) = ji4 := (i64_w _).symm.trans hji4_
  have hji4x : (ji2) ≤ 64 → (wrap64 (2 * 2 ^ (ji2).toNat)) = ji4 := fun h_ => (i64_w _).symm.trans (hji4z h_)
  by_cases c5 : 0 ≤ (ji4)
  ·rw [if_pos c5] at H
   have c5b0 := eq_true c5
   have c5b1 : decide (0 ≤ (ji4)) = true := decide_eq_true c5
   clear c5
   by_cases c6 : (ji4 : Int).toNat ≤ 35184372088832
   ·rw [if_pos c6] at H
    have c6b0 := eq_true c6
    have c6b1 : decide ((ji4 : Int).toNat ≤ 35184372088832) = true := decide_eq_true c6
    clear c6
    obtain ⟨y231, hy231⟩ : ∃ y_ : List Int, y_ = (List.replicate (ji4 : Int).toNat 0) := ⟨_, rfl⟩
    replace H : (some y231) = some r := by first | (rw [hy231]; with_reducible exact H) | (have H2_ := (Option.bind_some _ _).symm.trans H; rw [hy231]; with_reducible exact H2_) | (have H2_ := (Option.bind_some _ _).symm.trans H; with_reducible exact H2_) | with_reducible exact H | (rw [hy231]; exact H) | exact H
    have Ny231 := Aside0.mk hy231
    clear hy231
    obtain rfl := Option.some.inj H
    go_enter Tryd.func40, Tryd.ntmps40
    go_wp2_with (first | ((with_reducible refine gate_dst (N := 1) rfl ?_); refine box_event ?hg (N := 1) ?hd (cs := #[.int .i64 a0_0, .slice A0_1 l0_1.length c0_1]) (t := 28) ?hr ?_; (case hd => rfl); (case hg => rfl); (case hr => first | (go_simp; done) | (go_simp; rfl)); intro gb230 hg w7 hbox hb; have n0_ := Aside0.mk (below_step hb_ hb); have n1_ := Aside0.mk (hbox); have n2_ := Aside0.mk ((by rw [hg]; exact (below_size hb_) : w.heap.size ≤ gb230)); have n3_ := Aside0.mk ((by rw [hg]; exact (below_size hb_) : w.heap.size ≤ gb230)); clear HB; have HB := n0_; have BK230 := n1_; have GW230 := n2_; have GE230 := n3_; clear n0_ n1_ n2_ n3_; clear hb hbox hg; have hcz8_0 : w7.cell? ⟨gb230, 0, none⟩ = some (.int .i64 a0_0) := (blk_cell BK230.out 0).trans rfl; have hcz8_1 : w7.cell? ⟨gb230, 1, none⟩ = some (.slice A0_1 l0_1.length c0_1) := (blk_cell BK230.out 1).trans rfl; have hfz8_0 := blk_frozen BK230.out 0; have hfz8_1 := blk_frozen BK230.out 1) | ((with_reducible refine gate_dst (N := 9) rfl ?_); refine Kd.R_make (Kd.int .i64) _ 2 rfl (N := 9) rfl 38 _ _ rfl ji4 rfl rfl Tryd.underlying38 (.int .i64 0) 8 info2 rfl (by decide) (by omega) 0 (ok := fun _ => True) (okp := fun _ => True) rfl (fun _ hk => hk) trivial (oda) (Nat.le_trans (Nat.mul_le_mul_right _ (oda : ji4.toNat ≤ 35184372088832)) (by omega)) (Below.refl _ _) (Nat.le_refl _) ?_; intro v232 w9 ho10 hb hg_ hnew_; clear hg_ hnew_; (first | rw [← Ny231.out] at ho10 | (simp only [Int.reduceToNat] at ho10; rw [← Ny231.out] at ho10)); have n0_ := Aside0.mk (Kd.R_lower ho10 (below_size (by repeat (first | (with_reducible first | exact HB.out | apply below_alloc | apply pw_below_drewN | apply below_drew1 | refine below_set ?_ GE230.out) | exact HB.out)))); have n1_ := Aside0.mk (blk_below (g := gb230) (o := .cells #[.int .i64 a0_0, .slice A0_1 l0_1.length c0_1] 28 (0, 0)) (by (with_reducible repeat (first | refine blk_drewN ?_ _ | refine blk_drew ?_ | refine blk_alloc ?_ _)); exact BK230.out) hb); have n2_ := Aside0.mk (below_step (by repeat (first | (with_reducible first | exact HB.out | apply below_alloc | apply pw_below_drewN | apply below_drew1 | refine below_set ?_ GE230.out) | exact HB.out)) hb); clear BK230; clear HB; have HO233 := n0_; have BK230 := n1_; have HB := n2_; clear n0_ n1_ n2_; clear hb ho10))
    go_ret
    exact ⟨_, by first | rfl | (simp [errW_none, errW_some] <;> rfl) | (simp only [← hji2, ← hji4]; first | rfl | (simp [errW_none, errW_some] <;> rfl)) | (simp [*, errW_none, errW_some] <;> rfl), by (with_reducible repeat (first | apply Kd.R_alloc | apply Kd.R_drewN | apply Kd.R_drew)); exact HO233.out, by repeat (first | (with_reducible first | exact HB.out | apply below_alloc | apply pw_below_drewN | apply below_drew1 | refine below_set ?_ GE230.out) | exact HB.out)⟩
   ·rw [if_neg c6] at H
    exact absurd H (by simp)
  ·rw [if_neg c5] at H
   exact absurd H (by simp)
 ·rw [if_neg c3] at H
  exact absurd H (by simp)
/-! ### spec_l10Winner: function 38 -/
mutual
def spec_l10Winner.l0 : Nat → Int → Int → Int → List Int → Int → Int → Int → Int → Int → List (List Int) → Option (Int × List Int)
 | 0, _, _, _, _, _, _, _, _, _, _ => none
 | k + 1, x1, x2, x3, x4, x11, x12, x13, x14, x221000, x221001 => if x14 < x11 then (spec_l10Winner.j1 k x1 x2 x3 x4 x11 x12 x13 x14 (x13 != x3) x221000 x221001) else (spec_l10Winner.j1 k x1 x2 x3 x4 x11 x12 x13 x14 false x221000 x221001)
def spec_l10Winner.j1 : Nat → Int → Int → Int → List Int → Int → Int → Int → Int → Bool → Int → List (List Int) → Option (Int × List Int)
 | 0, _, _, _, _, _, _, _, _, _, _, _ => none
 | k + 1, x1, x2, x3, x4, x11, x12, x13, x14, x53, x221000, x221001 => if x53 = true then (if 0 ≤ x14 then (if (Go.bits .and .i64 (shr .i64 (Go.bits .or .i64 x1 x2) x14) 1) = 1 then (spec_l10Winner.l0 k x1 x2 x3 x4 x11 x12 x13 (IntKind.u64.wrap (x14 + 1)) x221000 x221001) else (if x3 = 1 then ((spec_l10Winner.f k x221000 x221001 (Go.bits .or .i64 x1 (shl .i64 1 x14)) x2 2 x4).bind fun bt225 => (if bt225.1 = x3 then (spec_l10Winner.l0 k x1 x2 x3 bt225.2 x11 x12 x3 (IntKind.u64.wrap (x14 + 1)) x221000 x221001) else (spec_l10Winner.l0 k x1 x2 x3 bt225.2 x11 x12 x13 (IntKind.u64.wrap (x14 + 1)) x221000 x221001))) else ((spec_l10Winner.f k x221000 x221001 x1 (Go.bits .or .i64 x2 (shl .i64 1 x14)) 1 x4).bind fun bt227 => (if bt227.1 = x3 then (spec_l10Winner.l0 k x1 x2 x3 bt227.2 x11 x12 x3 (IntKind.u64.wrap (x14 + 1)) x221000 x221001) else (spec_l10Winner.l0 k x1 x2 x3 bt227.2 x11 x12 x13 (IntKind.u64.wrap (x14 + 1)) x221000 x221001))))) else (none)) else (if 0 ≤ x12 then (if x12 < (x4.length : Int) then (some (x13, (x4.set (x12 : Int).toNat x13))) else (none)) else (none))
def spec_l10Winner.f : Nat → Int → List (List Int) → Int → Int → Int → List Int → Option (Int × List Int)
 | 0, _, _, _, _, _, _ => none
 | k + 1, a0_0, l0_1, a1, a2, a3, l4 => if 0 ≤ (IntKind.u64.wrap ((l0_1.length : Int))) then (if 0 ≤ (wrap64 ((wrap64 ((wrap64 ((Go.bits .or .i64 (shl .i64 a1 (IntKind.u64.wrap ((l0_1.length : Int)))) a2) * 2)) + a3)) - 1)) then (if (wrap64 ((wrap64 ((wrap64 ((Go.bits .or .i64 (shl .i64 a1 (IntKind.u64.wrap ((l0_1.length : Int)))) a2) * 2)) + a3)) - 1)) < (l4.length : Int) then (if (rd l4 (wrap64 ((wrap64 ((wrap64 ((Go.bits .or .i64 (shl .i64 a1 (IntKind.u64.wrap ((l0_1.length : Int)))) a2) * 2)) + a3)) - 1))) > 0 then (some (rd l4 (wrap64 ((wrap64 ((wrap64 ((Go.bits .or .i64 (shl .i64 a1 (IntKind.u64.wrap ((l0_1.length : Int)))) a2) * 2)) + a3)) - 1)), l4)) else ((spec_l10Over.f k a0_0 l0_1 a1 a2).bind fun t223 => (if t223 = 0 then (spec_l10Winner.l0 k a1 a2 a3 l4 (IntKind.u64.wrap ((l0_1.length : Int))) (wrap64 ((wrap64 ((wrap64 ((Go.bits .or .i64 (shl .i64 a1 (IntKind.u64.wrap ((l0_1.length : Int)))) a2) * 2)) + a3)) - 1)) (wrap64 (3 - a3)) 0 a0_0 l0_1) else (some (t223, (l4.set ((wrap64 ((wrap64 ((wrap64 ((Go.bits .or .i64 (shl .i64 a1 (IntKind.u64.wrap ((l0_1.length : Int)))) a2) * 2)) + a3)) - 1)) : Int).toNat t223)))))) else (none)) else (none)) else (none)
end
set_option maxHeartbeats 8000000 in
set_option maxRecDepth 100000 in
theorem spec_l10Winner.calls (k : Nat) : ∀ (a0_0 : Int) (A0_1 : Option Addr) (c0_1 : Nat) (l0_1 : List (List Int)) (a1 : Int) (a2 : Int) (a3 : Int) (P4_ : Nat → Prop) (u9000_ : Value) (l4 : List Int) (r1 : Int) (r2 : List Int) (w0 w : World) (hB : Below w0.heap.size w0 w) (hr0_1 : ∀ W_, Kept w W_ (fun k_ => P4_ k_) → Kd.C (Kd.slice 2 (Kd.int .i64)) W_ A0_1 l0_1.length l0_1) (hc0_1 : l0_1.length ≤ c0_1) (ho4 : Kd.R (Kd.int .i64) 2 w w0.heap.size P4_ u9000_ l4) (h : spec_l10Winner.f k a0_0 l0_1 a1 a2 a3 l4 = some (r1, r2)),
  Calls Tryd.prog 38 #[.agg #[.int .i64 a0_0, .slice A0_1 l0_1.length c0_1], .int .i64 a1, .int .i64 a2, .int .i64 a3, u9000_] w fun e w' => e = .returned (.int .i64 r1) ∧ Kd.R (Kd.int .i64) 2 w' w0.heap.size (fun k_ => (P4_ k_ ∨ w.heap.size ≤ k_)) u9000_ r2 ∧ Below w0.heap.size w0 w' ∧ Kept w w' (fun k_ => P4_ k_) := by
 induction k using Nat.strongRecOn with
 | _ k ih =>
 intro a0_0 A0_1 c0_1 l0_1 a1 a2 a3 P4_ u9000_ l4 r1 r2 w0 w hB hr0_1 hc0_1 ho4 h
 cases k with
 | zero => exact absurd h (by simp [spec_l10Winner.f])
 | succ k =>
 simp only [spec_l10Winner.f] at h
 have hu28 := Tryd.underlying28
 have HR0_1 := Aside0.mk hr0_1
 have HC0_1 := Aside0.mk hc0_1
 clear hr0_1 hc0_1
 have HO4 := Aside0.mk (show Kd.R (Kd.int .i64) 2 w w0.heap.size (fun k_ => (P4_ k_ ∨ w.heap.size ≤ k_)) u9000_ l4 from Kd.R_mono ho4 (fun k_ hk => (.inl hk)))
 have HK := Aside0.mk (Kept.refl w (fun k_ => P4_ k_))
 have HW0 := Aside0.mk hB.size
 have HB := Aside0.mk hB
 clear hB
 have H : (if 0 ≤ (IntKind.u64.wrap ((l0_1.length : Int))) then (if 0 ≤ (wrap64 ((wrap64 ((wrap64 ((Go.bits .or .i64 (shl .i64 a1 (IntKind.u64.wrap ((l0_1.length : Int)))) a2) * 2)) + a3)) - 1)) then (if (wrap64 ((wrap64 ((wrap64 ((Go.bits .or .i64 (shl .i64 a1 (IntKind.u64.wrap ((l0_1.length : Int)))) a2) * 2)) + a3)) - 1)) < (l4.length : Int) then (if (rd l4 (wrap64 ((wrap64 ((wrap64 ((Go.bits .or .i64 (shl .i64 a1 (IntKind.u64.wrap ((l0_1.length : Int)))) a2) * 2)) + a3)) - 1))) > 0 then (some (rd l4 (wrap64 ((wrap64 ((wrap64 ((Go.bits .or .i64 (shl .i64 a1 (IntKind.u64.wrap ((l0_1.length : Int)))) a2) * 2)) + a3)) - 1)), l4)) else ((spec_l10Over.f k a0_0 l0_1 a1 a2).bind fun t223 => (if t223 = 0 then (spec_l10Winner.l0 k a1 a2 a3 l4 (IntKind.u64.wrap ((l0_1.length : Int))) (wrap64 ((wrap64 ((wrap64 ((Go.bits .or .i64 (shl .i64 a1 (IntKind.u64.wrap ((l0_1.length : Int)))) a2) * 2)) + a3)) - 1)) (wrap64 (3 - a3)) 0 a0_0 l0_1) else (some (t223, (l4.set ((wrap64 ((wrap64 ((wrap64 ((Go.bits .or .i64 (shl .i64 a1 (IntKind.u64.wrap ((l0_1.length : Int)))) a2) * 2)) + a3)) - 1)) : Int).toNat t223)))))) else (none)) else (none)) else (none)) = some (r1, r2) := h
 clear h
 obtain ⟨ji6, hji6⟩ : ∃ j_ : Int, (IntKind.u64.wrap ((l0_1.length : Int))) = j_ := ⟨_, rfl⟩
 replace H : (if 0 ≤ (ji6) then (if 0 ≤ (wrap64 ((wrap64 ((wrap64 ((Go.bits .or .i64 (shl .i64 a1 (ji6)) a2) * 2)) + a3)) - 1)) then (if (wrap64 ((wrap64 ((wrap64 ((Go.bits .or .i64 (shl .i64 a1 (ji6)) a2) * 2)) + a3)) - 1)) < (l4.length : Int) then (if (rd l4 (wrap64 ((wrap64 ((wrap64 ((Go.bits .or .i64 (shl .i64 a1 (ji6)) a2) * 2)) + a3)) - 1))) > 0 then (some (rd l4 (wrap64 ((wrap64 ((wrap64 ((Go.bits .or .i64 (shl .i64 a1 (ji6)) a2) * 2)) + a3)) - 1)), l4)) else ((spec_l10Over.f k a0_0 l0_1 a1 a2).bind fun t223 => (if t223 = 0 then (spec_l10Winner.l0 k a1 a2 a3 l4 ji6 (wrap64 ((wrap64 ((wrap64 ((Go.bits .or .i64 (shl .i64 a1 (ji6)) a2) * 2)) + a3)) - 1)) (wrap64 (3 - a3)) 0 a0_0 l0_1) else (some (t223, (l4.set ((wrap64 ((wrap64 ((wrap64 ((Go.bits .or .i64 (shl .i64 a1 (ji6)) a2) * 2)) + a3)) - 1)) : Int).toNat t223)))))) else (none)) else (none)) else (none)) = some (r1, r2) := by first | (rw [hji6] at H; exact H) | (simp only [hji6] at H ⊢; exact H)
 by_cases c7 : 0 ≤ (ji6)
 ·rw [if_pos c7] at H
  have c7b0 := eq_true c7
  have c7b1 : decide (0 ≤ (ji6)) = true := decide_eq_true c7
  clear c7
  obtain ⟨ji8, hji8⟩ : ∃ j_ : Int, (shl .i64 a1 (ji6)) = j_ := ⟨_, rfl⟩
  replace H : (if 0 ≤ (wrap64 ((wrap64 ((wrap64 ((Go.bits .or .i64 (ji8) a2) * 2)) + a3)) - 1)) then (if (wrap64 ((wrap64 ((wrap64 ((Go.bits .or .i64 (ji8) a2) * 2)) + a3)) - 1)) < (l4.length : Int) then (if (rd l4 (wrap64 ((wrap64 ((wrap64 ((Go.bits .or .i64 (ji8) a2) * 2)) + a3)) - 1))) > 0 then (some (rd l4 (wrap64 ((wrap64 ((wrap64 ((Go.bits .or .i64 (ji8) a2) * 2)) + a3)) - 1)), l4)) else ((spec_l10Over.f k a0_0 l0_1 a1 a2).bind fun t223 => (if t223 = 0 then (spec_l10Winner.l0 k a1 a2 a3 l4 ji6 (wrap64 ((wrap64 ((wrap64 ((Go.bits .or .i64 (ji8) a2) * 2)) + a3)) - 1)) (wrap64 (3 - a3)) 0 a0_0 l0_1) else (some (t223, (l4.set ((wrap64 ((wrap64 ((wrap64 ((Go.bits .or .i64 (ji8) a2) * 2)) + a3)) - 1)) : Int).toNat t223)))))) else (none)) else (none)) = some (r1, r2) := by first | (rw [hji8] at H; exact H) | (simp only [hji8] at H ⊢; exact H)
  have hji8_ : (IntKind.i64.wrap (a1 * 2 ^ min (ji6).toNat 64)) = ji8 := hji8
  have hji8z : (ji6) ≤ 64 → (IntKind.i64.wrap (a1 * 2 ^ (ji6).toNat)) = ji8 := shl_small hji8
  have hji8y : (wrap64 (a1 * 2 ^ min (ji6).toNat 64)) = ji8 := (i64_w _).symm.trans hji8_
  have hji8x : (ji6) ≤ 64 → (wrap64 (a1 * 2 ^ (ji6).toNat)) = ji8 := fun h_ => (i64_w _).symm.trans (hji8z h_)
  obtain ⟨ji9, hji9⟩ : ∃ j_ : Int, (wrap64 ((wrap64 ((wrap64 ((Go.bits .or .i64 (ji8) a2) * 2)) + a3)) - 1)) = j_ := ⟨_, rfl⟩
  replace H : (if 0 ≤ (ji9) then (if (ji9) < (l4.length : Int) then (if (rd l4 (ji9)) > 0 then (some (rd l4 (ji9), l4)) else ((spec_l10Over.f k a0_0 l0_1 a1 a2).bind fun t223 => (if t223 = 0 then (spec_l10Winner.l0 k a1 a2 a3 l4 ji6 ji9 (wrap64 (3 - a3)) 0 a0_0 l0_1) else (some (t223, (l4.set ((ji9) : Int).toNat t223)))))) else (none)) else (none)) = some (r1, r2) := by first | (rw [hji9] at H; exact H) | (simp only [hji9] at H ⊢; exact H)
  have hji9w : (IntKind.i64.wrap ((wrap64 ((wrap64 ((Go.bits .or .i64 (ji8) a2) * 2)) + a3)) - 1)) = ji9 := (i64_w _).trans hji9
  by_cases c10 : 0 ≤ (ji9)
  ·rw [if_pos c10] at H
   have c10b0 : decide (0 ≤ (ji9)) = true := decide_eq_true c10
   clear c10
   by_cases c11 : (ji9) < (l4.length : Int)
   ·rw [if_pos c11] at H
    have c11b0 : decide ((ji9) < (l4.length : Int)) = true := decide_eq_true c11
    clear c11
    by_cases c12 : (rd l4 (ji9)) > 0
    ·rw [if_pos c12] at H
     have c12b0 : decide (0 < (rd l4 (ji9))) = true := decide_eq_true c12
     clear c12
     simp only [Option.some.injEq, Prod.mk.injEq] at H
     obtain ⟨rfl, rfl⟩ := H
     go_enter Tryd.func38, Tryd.ntmps38
     go_wp2_with (first | ((with_reducible refine gate_dst (N := 5) rfl ?_); refine box_event ?hg (N := 5) ?hd (cs := #[.int .i64 a0_0, .slice A0_1 l0_1.length c0_1]) (t := 28) ?hr ?_; (case hd => rfl); (case hg => rfl); (case hr => first | (go_simp; done) | (go_simp; rfl)); intro gb220 hg w13 hbox hb; have n0_ := Aside0.mk (Kd.R_below (by (with_reducible repeat (first | apply Kd.R_alloc | apply Kd.R_drewN | apply Kd.R_drew)); exact HO4.out) hb); have n1_ := Aside0.mk (Kept.below (S := (fun k_ => P4_ k_)) (by repeat (first | (with_reducible first | exact HK.out | apply Kept.alloc | apply Kept.drewN | apply Kept.drew) | exact HK.out)) hb); have n2_ := Aside0.mk (below_step hb_ hb); have n3_ := Aside0.mk (hbox); have n4_ := Aside0.mk ((by rw [hg]; exact (by first | exact HK.out.1 | exact (show Kept w _ (fun k_ => P4_ k_) from by repeat (first | (with_reducible first | exact HK.out | apply Kept.alloc | apply Kept.drewN | apply Kept.drew) | exact HK.out)).1) : w.heap.size ≤ gb220)); have n5_ := Aside0.mk ((by rw [hg]; exact (below_size hb_) : w0.heap.size ≤ gb220)); clear HO4; clear HK; clear HB; have HO4 := n0_; have HK := n1_; have HB := n2_; have BK220 := n3_; have GW220 := n4_; have GE220 := n5_; clear n0_ n1_ n2_ n3_ n4_ n5_; clear hb hbox hg; have hcz14_0 : w13.cell? ⟨gb220, 0, none⟩ = some (.int .i64 a0_0) := (blk_cell BK220.out 0).trans rfl; have hcz14_1 : w13.cell? ⟨gb220, 1, none⟩ = some (.slice A0_1 l0_1.length c0_1) := (blk_cell BK220.out 1).trans rfl; have hfz14_0 := blk_frozen BK220.out 0; have hfz14_1 := blk_frozen BK220.out 1; obtain ⟨Ao15, co15, eo15⟩ := Kd.R_slice HO4.out; subst eo15; have p221 : 0 ≤ ((ji9) : Int) := oda; have q221 : (ji9) < (l4.length : Int) := oda; obtain ⟨ad221, e221, hx221_0⟩ := Kd.at_int (Kd.R_reads' HO4.out).2.2 (ji9) p221 q221; cases e221; replace p221 := eq_true p221; replace q221 := eq_true q221; have p222 : 0 ≤ ((ji9) : Int) := oda; have q222 : (ji9) < (l4.length : Int) := oda; obtain ⟨ad222, e222, hx222_0⟩ := Kd.at_int (Kd.R_reads' HO4.out).2.2 (ji9) p222 q222; obtain rfl : ad221 = ad222 := (by injection e222); replace p222 := eq_true p222; replace q222 := eq_true q222))
     go_ret
     exact ⟨by first | rfl | (simp [errW_none, errW_some] <;> rfl) | (simp only [← hji6, ← hji8, ← hji9]; first | rfl | (simp [errW_none, errW_some] <;> rfl)) | (simp [*, errW_none, errW_some] <;> rfl), by (with_reducible repeat (first | apply Kd.R_alloc | apply Kd.R_drewN | apply Kd.R_drew)); exact HO4.out, by repeat (first | (with_reducible first | exact HB.out | apply below_alloc | apply pw_below_drewN | apply below_drew1 | refine below_set ?_ GE220.out) | exact HB.out), by repeat (first | (with_reducible first | exact HK.out | apply Kept.alloc | apply Kept.drewN | apply Kept.drew | refine Kept.setCell ?_ (.inr GW220.out) _) | exact HK.out)⟩
    ·rw [if_neg c12] at H
     have c12b0 : decide (0 < (rd l4 (ji9))) = false := decide_eq_false c12
     clear c12
     replace H := Option.bind_eq_some_iff.mp H
     obtain ⟨t223, A160, H⟩ := H
     replace H : (if t223 = 0 then (spec_l10Winner.l0 k a1 a2 a3 l4 ji6 ji9 (wrap64 (3 - a3)) 0 a0_0 l0_1) else (some (t223, (l4.set ((ji9) : Int).toNat t223)))) = some (r1, r2) := H
     have A16 := Aside0.mk A160
     clear A160
     by_cases c17 : t223 = 0
     ·rw [if_pos c17] at H
      have c17b0 : (t223 == 0) = true := beq_iff_eq.mpr c17
      have c17b1 : (t223 != 0) = false := bne_eq_false_iff_eq.mpr c17
      clear c17
      have H' := Aside0.mk H
      clear H
      go_enter Tryd.func38, Tryd.ntmps38
      go_wp2_with (first | ((with_reducible refine gate_dst (N := 5) rfl ?_); refine box_event ?hg (N := 5) ?hd (cs := #[.int .i64 a0_0, .slice A0_1 l0_1.length c0_1]) (t := 28) ?hr ?_; (case hd => rfl); (case hg => rfl); (case hr => first | (go_simp; done) | (go_simp; rfl)); intro gb220 hg w18 hbox hb; have n0_ := Aside0.mk (Kd.R_below (by (with_reducible repeat (first | apply Kd.R_alloc | apply Kd.R_drewN | apply Kd.R_drew)); exact HO4.out) hb); have n1_ := Aside0.mk (Kept.below (S := (fun k_ => P4_ k_)) (by repeat (first | (with_reducible first | exact HK.out | apply Kept.alloc | apply Kept.drewN | apply Kept.drew) | exact HK.out)) hb); have n2_ := Aside0.mk (below_step hb_ hb); have n3_ := Aside0.mk (hbox); have n4_ := Aside0.mk ((by rw [hg]; exact (by first | exact HK.out.1 | exact (show Kept w _ (fun k_ => P4_ k_) from by repeat (first | (with_reducible first | exact HK.out | apply Kept.alloc | apply Kept.drewN | apply Kept.drew) | exact HK.out)).1) : w.heap.size ≤ gb220)); have n5_ := Aside0.mk ((by rw [hg]; exact (below_size hb_) : w0.heap.size ≤ gb220)); clear HO4; clear HK; clear HB; have HO4 := n0_; have HK := n1_; have HB := n2_; have BK220 := n3_; have GW220 := n4_; have GE220 := n5_; clear n0_ n1_ n2_ n3_ n4_ n5_; clear hb hbox hg; have hcz19_0 : w18.cell? ⟨gb220, 0, none⟩ = some (.int .i64 a0_0) := (blk_cell BK220.out 0).trans rfl; have hcz19_1 : w18.cell? ⟨gb220, 1, none⟩ = some (.slice A0_1 l0_1.length c0_1) := (blk_cell BK220.out 1).trans rfl; have hfz19_0 := blk_frozen BK220.out 0; have hfz19_1 := blk_frozen BK220.out 1; obtain ⟨Ao20, co20, eo20⟩ := Kd.R_slice HO4.out; subst eo20; have p221 : 0 ≤ ((ji9) : Int) := oda; have q221 : (ji9) < (l4.length : Int) := oda; obtain ⟨ad221, e221, hx221_0⟩ := Kd.at_int (Kd.R_reads' HO4.out).2.2 (ji9) p221 q221; cases e221; replace p221 := eq_true p221; replace q221 := eq_true q221) | ((with_reducible refine gate_callee (f := 33) rfl ?_); refine goesA_ (some 41) rfl rfl Tryd.func33 (by kernel_rfl) rfl #[.agg #[.int .i64 a0_0, .slice A0_1 l0_1.length c0_1], .int .i64 a1, .int .i64 a2] rfl ?_; (with_reducible refine (spec_l10Over.calls k a0_0 _ _ l0_1 a1 a2 t223 _ ?side1 ?side2 A16.out).mono ?_); (case side1 => exact Kd.C_kept_now HR0_1.out (by repeat (first | (with_reducible first | exact HK.out | apply Kept.alloc | apply Kept.drewN | apply Kept.drew | refine Kept.setCell ?_ (.inr GW220.out) _) | exact HK.out))); (case side2 => exact HC0_1.out); rintro e w21 ⟨rfl, hb⟩; refine ⟨_, rfl, ?_⟩; have n0_ := Aside0.mk (Kd.R_below (by (with_reducible repeat (first | apply Kd.R_alloc | apply Kd.R_drewN | apply Kd.R_drew)); exact HO4.out) hb); have n1_ := Aside0.mk (blk_below (g := gb220) (o := .cells #[.int .i64 a0_0, .slice A0_1 l0_1.length c0_1] 28 (0, 0)) (by (with_reducible repeat (first | refine blk_drewN ?_ _ | refine blk_drew ?_ | refine blk_alloc ?_ _)); exact BK220.out) hb); have n2_ := Aside0.mk (Kept.below (S := (fun k_ => P4_ k_)) (by repeat (first | (with_reducible first | exact HK.out | apply Kept.alloc | apply Kept.drewN | apply Kept.drew | refine Kept.setCell ?_ (.inr GW220.out) _) | exact HK.out)) hb); have n3_ := Aside0.mk (below_step (by repeat (first | (with_reducible first | exact HB.out | apply below_alloc | apply pw_below_drewN | apply below_drew1 | refine below_set ?_ GE220.out) | exact HB.out)) hb); clear HO4; clear BK220; clear HK; clear HB; have HO4 := n0_; have BK220 := n1_; have HK := n2_; have HB := n3_; clear n0_ n1_ n2_ n3_; (try clear hb); (try clear hb2); (try clear hk); (try clear hi)))
      go_loopg [13, 14] k (fun kq v13 v14 w' => ∃ (x4_1 : List Int) (x13_1 : Int) (x14_1 : Int), v13 = .int .i64 x13_1 ∧ v14 = .int .u64 x14_1 ∧ Aside0 (spec_l10Winner.l0 kq a1 a2 a3 x4_1 ji6 ji9 x13_1 x14_1 a0_0 l0_1 = some (r1, r2)) ∧ Aside0 (kq ≤ k) ∧ Aside0 (Kd.R (Kd.int .i64) 2 w' w0.heap.size (fun k_ => (P4_ k_ ∨ w.heap.size ≤ k_)) (.slice (some ad221) l4.length co20) x4_1) ∧ Aside0 (w'.heap[gb220]? = some (.cells #[.int .i64 a0_0, (.slice A0_1 l0_1.length c0_1)] 28 (0, 0))) ∧ Aside0 (Kept w w' (fun k_ => P4_ k_)) ∧ Aside0 (Below w0.heap.size w0 w'))
      case atStart => exact ⟨(l4), (wrap64 (3 - a3)), (0), (by first | rfl | (simp; done) | (simp [*]; done)), (by first | rfl | (simp; done) | (simp [*]; done)), H', ⟨Nat.le_refl _⟩, ⟨by (with_reducible repeat (first | apply Kd.R_alloc | apply Kd.R_drewN | apply Kd.R_drew)); exact HO4.out⟩, ⟨by (with_reducible repeat (first | refine blk_drewN ?_ _ | refine blk_drew ?_ | refine blk_alloc ?_ _)); exact BK220.out⟩, ⟨by repeat (first | (with_reducible first | exact HK.out | apply Kept.alloc | apply Kept.drewN | apply Kept.drew | refine Kept.setCell ?_ (.inr GW220.out) _) | exact HK.out)⟩, ⟨by repeat (first | (with_reducible first | exact HB.out | apply below_alloc | apply pw_below_drewN | apply below_drew1 | refine below_set ?_ GE220.out) | exact HB.out)⟩⟩
      case round =>
       clear H'
       (try clear c1); (try clear p2); (try clear q2); (try clear hx2); (try clear c3); (try clear p6); (try clear c7); (try clear c7b0); (try clear c7b1); (try clear c10); (try clear c10b0); (try clear c11); (try clear c11b0); (try clear c12); (try clear c12b0); (try clear c17); (try clear c17b0); (try clear c17b1); (try clear hcz14_0); (try clear hcz14_1); (try clear hcz19_0); (try clear hcz19_1); (try clear hfz14_0); (try clear hfz14_1); (try clear hfz19_0); (try clear hfz19_1); (try clear hx221_0); (try clear hx222_0); (try clear p221); (try clear p222); (try clear q221); (try clear q222)
       obtain ⟨x4_1, x13_1, x14_1, rfl, rfl, HA, HK1, HO_4, BK220, HK, HB⟩ := hrel
       have hl4_1 := (Kd.R_reads' HO_4.out).1
       rw [hl4_1] at HO_4
       (try simp only [hl4_1])
       (try simp only [hl4_1] at BK220)
       cases gk with
       | zero => exact absurd HA.out (by simp [spec_l10Winner.l0])
       | succ k1 =>
        have H := HA.out
        clear HA
        simp only [spec_l10Winner.l0] at H
        have HC22 := Aside0.mk H
        clear H
        go_upto_region 9 with (fail)
        go_cut [53] (fun v53 wc => ∃ (kq : Nat) (x53_21 : Bool), v53 = .bool x53_21 ∧ Aside0 (spec_l10Winner.j1 kq a1 a2 a3 x4_1 ji6 ji9 x13_1 x14_1 x53_21 a0_0 l0_1 = some (r1, r2)) ∧ Aside0 (kq ≤ k1) ∧ Aside0 (Kd.R (Kd.int .i64) 2 wc w0.heap.size (fun k_ => (P4_ k_ ∨ w.heap.size ≤ k_)) (.slice (some ad221) x4_1.length co20) x4_1) ∧ Aside0 (wc.heap[gb220]? = some (.cells #[.int .i64 a0_0, (.slice A0_1 l0_1.length c0_1)] 28 (0, 0))) ∧ Aside0 (Kept w wc (fun k_ => P4_ k_)) ∧ Aside0 (Below w0.heap.size w0 wc))
        case first =>
         have H := HC22.out
         clear HC22
         by_cases c23 : x14_1 < ji6
         ·rw [if_pos c23] at H
          have c23b0 : decide (x14_1 < ji6) = true := decide_eq_true c23
          clear c23
          (first | rw [c23b0] | (simp only [i64_w, i32_w]; rw [c23b0]) | skip)
          have H' := Aside0.mk H
          clear H
          go_wp2
          go_meet
          case rel => exact ⟨_, ((x13_1 != a3)), (by first | rfl | (simp; done) | (simp [*]; done)), H', ⟨by have := HK1.out; first | omega | exact Nat.le_refl _⟩, ⟨by (try simp only [hl4_1]); (with_reducible repeat (first | apply Kd.R_alloc | apply Kd.R_drewN | apply Kd.R_drew)); exact HO_4.out⟩, ⟨by (try simp only [hl4_1]); (with_reducible repeat (first | refine blk_drewN ?_ _ | refine blk_drew ?_ | refine blk_alloc ?_ _)); exact BK220.out⟩, ⟨by repeat (first | (with_reducible first | exact HK.out | apply Kept.alloc | apply Kept.drewN | apply Kept.drew | refine Kept.setCell ?_ (.inr GW220.out) _) | exact HK.out)⟩, ⟨by repeat (first | (with_reducible first | exact HB.out | apply below_alloc | apply pw_below_drewN | apply below_drew1 | refine below_set ?_ GE220.out) | exact HB.out)⟩⟩
         ·rw [if_neg c23] at H
          have c23b0 : decide (x14_1 < ji6) = false := decide_eq_false c23
          clear c23
          (first | rw [c23b0] | (simp only [i64_w, i32_w]; rw [c23b0]) | skip)
          have H' := Aside0.mk H
          clear H
          go_wp2
          go_meet
          case rel => exact ⟨_, (false), (by first | rfl | (simp; done) | (simp [*]; done)), H', ⟨by have := HK1.out; first | omega | exact Nat.le_refl _⟩, ⟨by (try simp only [hl4_1]); (with_reducible repeat (first | apply Kd.R_alloc | apply Kd.R_drewN | apply Kd.R_drew)); exact HO_4.out⟩, ⟨by (try simp only [hl4_1]); (with_reducible repeat (first | refine blk_drewN ?_ _ | refine blk_drew ?_ | refine blk_alloc ?_ _)); exact BK220.out⟩, ⟨by repeat (first | (with_reducible first | exact HK.out | apply Kept.alloc | apply Kept.drewN | apply Kept.drew | refine Kept.setCell ?_ (.inr GW220.out) _) | exact HK.out)⟩, ⟨by repeat (first | (with_reducible first | exact HB.out | apply below_alloc | apply pw_below_drewN | apply below_drew1 | refine below_set ?_ GE220.out) | exact HB.out)⟩⟩
        case rest =>
         clear HC22
         (try clear c1); (try clear c2); (try clear p2); (try clear q2); (try clear hx2); (try clear c3); (try clear p6); (try clear c7); (try clear c7b0); (try clear c7b1); (try clear c10); (try clear c10b0); (try clear c11); (try clear c11b0); (try clear c12); (try clear c12b0); (try clear c17); (try clear c17b0); (try clear c17b1); (try clear p22); (try clear q22); (try clear hx22); (try clear c23); (try clear c23b0); (try clear hcz14_0); (try clear hcz14_1); (try clear hcz19_0); (try clear hcz19_1); (try clear hfz14_0); (try clear hfz14_1); (try clear hfz19_0); (try clear hfz19_1); (try clear hx221_0); (try clear hx222_0); (try clear p2); (try clear p221); (try clear p222); (try clear p6); (try clear q2); (try clear q221); (try clear q222)
         obtain ⟨kq, x53_21, rfl, HA, HJ21, HO_4, BK220, HK, HB⟩ := hcut
         cases kq with
         | zero => exact absurd HA.out (by simp [spec_l10Winner.j1])
         | succ kj21 =>
          have H := HA.out
          clear HA
          simp only [spec_l10Winner.j1] at H
          by_cases c24 : x53_21 = true
          ·subst c24
           have H1 : (if 0 ≤ x14_1 then (if (Go.bits .and .i64 (shr .i64 (Go.bits .or .i64 a1 a2) x14_1) 1) = 1 then (spec_l10Winner.l0 kj21 a1 a2 a3 x4_1 ji6 ji9 x13_1 (IntKind.u64.wrap (x14_1 + 1)) a0_0 l0_1) else (if a3 = 1 then ((spec_l10Winner.f kj21 a0_0 l0_1 (Go.bits .or .i64 a1 (shl .i64 1 x14_1)) a2 2 x4_1).bind fun bt225 => (if bt225.1 = a3 then (spec_l10Winner.l0 kj21 a1 a2 a3 bt225.2 ji6 ji9 a3 (IntKind.u64.wrap (x14_1 + 1)) a0_0 l0_1) else (spec_l10Winner.l0 kj21 a1 a2 a3 bt225.2 ji6 ji9 x13_1 (IntKind.u64.wrap (x14_1 + 1)) a0_0 l0_1))) else ((spec_l10Winner.f kj21 a0_0 l0_1 a1 (Go.bits .or .i64 a2 (shl .i64 1 x14_1)) 1 x4_1).bind fun bt227 => (if bt227.1 = a3 then (spec_l10Winner.l0 kj21 a1 a2 a3 bt227.2 ji6 ji9 a3 (IntKind.u64.wrap (x14_1 + 1)) a0_0 l0_1) else (spec_l10Winner.l0 kj21 a1 a2 a3 bt227.2 ji6 ji9 x13_1 (IntKind.u64.wrap (x14_1 + 1)) a0_0 l0_1))))) else (none)) = some (r1, r2) := by rw [if_pos rfl] at H; exact H
           clear H
           have H := H1
           clear H1
           by_cases c25 : 0 ≤ x14_1
           ·rw [if_pos c25] at H
            have c25b0 := eq_true c25
            have c25b1 : decide (0 ≤ x14_1) = true := decide_eq_true c25
            clear c25
            obtain ⟨ji26, hji26⟩ : ∃ j_ : Int, (shr .i64 (Go.bits .or .i64 a1 a2) x14_1) = j_ := ⟨_, rfl⟩
            replace H : (if (Go.bits .and .i64 (ji26) 1) = 1 then (spec_l10Winner.l0 kj21 a1 a2 a3 x4_1 ji6 ji9 x13_1 (IntKind.u64.wrap (x14_1 + 1)) a0_0 l0_1) else (if a3 = 1 then ((spec_l10Winner.f kj21 a0_0 l0_1 (Go.bits .or .i64 a1 (shl .i64 1 x14_1)) a2 2 x4_1).bind fun bt225 => (if bt225.1 = a3 then (spec_l10Winner.l0 kj21 a1 a2 a3 bt225.2 ji6 ji9 a3 (IntKind.u64.wrap (x14_1 + 1)) a0_0 l0_1) else (spec_l10Winner.l0 kj21 a1 a2 a3 bt225.2 ji6 ji9 x13_1 (IntKind.u64.wrap (x14_1 + 1)) a0_0 l0_1))) else ((spec_l10Winner.f kj21 a0_0 l0_1 a1 (Go.bits .or .i64 a2 (shl .i64 1 x14_1)) 1 x4_1).bind fun bt227 => (if bt227.1 = a3 then (spec_l10Winner.l0 kj21 a1 a2 a3 bt227.2 ji6 ji9 a3 (IntKind.u64.wrap (x14_1 + 1)) a0_0 l0_1) else (spec_l10Winner.l0 kj21 a1 a2 a3 bt227.2 ji6 ji9 x13_1 (IntKind.u64.wrap (x14_1 + 1)) a0_0 l0_1))))) = some (r1, r2) := by first | (rw [hji26] at H; exact H) | (simp only [hji26] at H ⊢; exact H)
            have hji26_ : ((Go.bits .or .i64 a1 a2) / 2 ^ min x14_1.toNat 64) = ji26 := hji26
            have hji26z : x14_1 ≤ 64 → ((Go.bits .or .i64 a1 a2) / 2 ^ x14_1.toNat) = ji26 := shr_small hji26
            by_cases c27 : (Go.bits .and .i64 (ji26) 1) = 1
            ·rw [if_pos c27] at H
             have c27b0 : ((Go.bits .and .i64 (ji26) 1) == 1) = true := beq_iff_eq.mpr c27
             have c27b1 : ((Go.bits .and .i64 (ji26) 1) != 1) = false := bne_eq_false_iff_eq.mpr c27
             clear c27
             have H' := Aside0.mk H
             clear H
             go_wp2
             (try simp only [← hl4_1])
             go_roundg kj21
             case measure => have := HK1.out; have := HJ21.out; omega
             case rel => exact ⟨(x4_1), (x13_1), (IntKind.u64.wrap (x14_1 + 1)), (by first | rfl | (simp; done) | (simp [*]; done)), (by first | rfl | (simp; done) | (simp [*]; done)), H', ⟨by have := HK1.out; have := HJ21.out; omega⟩, ⟨by (try simp only [hl4_1]); (with_reducible repeat (first | apply Kd.R_alloc | apply Kd.R_drewN | apply Kd.R_drew)); exact HO_4.out⟩, ⟨by (try simp only [hl4_1]); (with_reducible repeat (first | refine blk_drewN ?_ _ | refine blk_drew ?_ | refine blk_alloc ?_ _)); exact BK220.out⟩, ⟨by repeat (first | (with_reducible first | exact HK.out | apply Kept.alloc | apply Kept.drewN | apply Kept.drew | refine Kept.setCell ?_ (.inr GW220.out) _) | exact HK.out)⟩, ⟨by repeat (first | (with_reducible first | exact HB.out | apply below_alloc | apply pw_below_drewN | apply below_drew1 | refine below_set ?_ GE220.out) | exact HB.out)⟩⟩
            ·rw [if_neg c27] at H
             have c27b0 : ((Go.bits .and .i64 (ji26) 1) == 1) = false := beq_eq_false_iff_ne.mpr c27
             have c27b1 : ((Go.bits .and .i64 (ji26) 1) != 1) = true := bne_iff_ne.mpr c27
             by_cases c28 : a3 = 1
             ·rw [if_pos c28] at H
              have c28b0 : (a3 == 1) = true := beq_iff_eq.mpr c28
              have c28b1 : (a3 != 1) = false := bne_eq_false_iff_eq.mpr c28
              clear c28
              have c29b0 := eq_true (oda : 0 ≤ x14_1)
              obtain ⟨ji30, hji30⟩ : ∃ j_ : Int, (shl .i64 1 x14_1) = j_ := ⟨_, rfl⟩
              replace H : ((spec_l10Winner.f kj21 a0_0 l0_1 (Go.bits .or .i64 a1 (ji30)) a2 2 x4_1).bind fun bt225 => (if bt225.1 = a3 then (spec_l10Winner.l0 kj21 a1 a2 a3 bt225.2 ji6 ji9 a3 (IntKind.u64.wrap (x14_1 + 1)) a0_0 l0_1) else (spec_l10Winner.l0 kj21 a1 a2 a3 bt225.2 ji6 ji9 x13_1 (IntKind.u64.wrap (x14_1 + 1)) a0_0 l0_1))) = some (r1, r2) := by first | (rw [hji30] at H; exact H) | (simp only [hji30] at H ⊢; exact H)
              have hji30_ : (IntKind.i64.wrap (1 * 2 ^ min x14_1.toNat 64)) = ji30 := hji30
              have hji30z : x14_1 ≤ 64 → (IntKind.i64.wrap (1 * 2 ^ x14_1.toNat)) = ji30 := shl_small hji30
              have hji30u : (IntKind.i64.wrap (2 ^ min x14_1.toNat 64)) = ji30 := by have h_ := hji30_; rw [Int.one_mul] at h_; exact h_
              have hji30v : x14_1 ≤ 64 → (IntKind.i64.wrap (2 ^ x14_1.toNat)) = ji30 := fun hle_ => by have h_ := hji30z hle_; rw [Int.one_mul] at h_; exact h_
              have hji30y : (wrap64 (1 * 2 ^ min x14_1.toNat 64)) = ji30 := (i64_w _).symm.trans hji30_
              have hji30x : x14_1 ≤ 64 → (wrap64 (1 * 2 ^ x14_1.toNat)) = ji30 := fun h_ => (i64_w _).symm.trans (hji30z h_)
              replace H := Option.bind_eq_some_iff.mp H
              obtain ⟨⟨t225, t226⟩, A310, H⟩ := H
              replace H : (if t225 = a3 then (spec_l10Winner.l0 kj21 a1 a2 a3 t226 ji6 ji9 a3 (IntKind.u64.wrap (x14_1 + 1)) a0_0 l0_1) else (spec_l10Winner.l0 kj21 a1 a2 a3 t226 ji6 ji9 x13_1 (IntKind.u64.wrap (x14_1 + 1)) a0_0 l0_1)) = some (r1, r2) := H
              have A31 := Aside0.mk A310
              clear A310
              by_cases c32 : t225 = a3
              ·rw [if_pos c32] at H
               have c32b0 : (t225 == a3) = true := beq_iff_eq.mpr c32
               have c32b1 : (t225 != a3) = false := bne_eq_false_iff_eq.mpr c32
               clear c32
               have H' := Aside0.mk H
               clear H
               have hcz33_0 : wc.cell? ⟨gb220, 0, none⟩ = some (.int .i64 a0_0) := (blk_cell BK220.out 0).trans rfl
               have hcz33_1 : wc.cell? ⟨gb220, 1, none⟩ = some (.slice A0_1 l0_1.length c0_1) := (blk_cell BK220.out 1).trans rfl
               have hfz33_0 := blk_frozen BK220.out 0
               have hfz33_1 := blk_frozen BK220.out 1
               go_wp2_with (first | ((with_reducible refine gate_callee (f := 38) rfl ?_); refine goesL_ (some 72) rfl rfl Tryd.func38 (by kernel_rfl) rfl #[.agg #[.int .i64 a0_0, .slice A0_1 l0_1.length c0_1], .int .i64 (Go.bits .or .i64 a1 (ji30)), .int .i64 a2, .int .i64 2, .slice (some ad221) x4_1.length co20] rfl (by (try simp only [List.map_toArray, List.map_cons, List.map_nil]); first | done | (simp only [hji30]; rfl) | rfl | (simp only [List.length_drop, List.length_take]; rfl)) ?_; (with_reducible refine (ih kj21 (by have := HK1.out; have := HJ21.out; omega) a0_0 _ _ l0_1 (Go.bits .or .i64 a1 (ji30)) a2 2 (fun k_ => some k_ = (.slice (some ad221) x4_1.length co20 : Value).ownBlock) (.slice (some ad221) x4_1.length co20) x4_1 t225 t226 w0 _ ?side1 ?side2 ?side3 ?side4 A31.out).mono ?_); (case side1 => repeat (first | (with_reducible first | exact HB.out | apply below_alloc | apply pw_below_drewN | apply below_drew1 | refine below_set ?_ GE220.out) | exact HB.out)); (case side2 => exact Kd.C_kept_call HR0_1.out (by repeat (first | (with_reducible first | exact HK.out | apply Kept.alloc | apply Kept.drewN | apply Kept.drew | refine Kept.setCell ?_ (.inr GW220.out) _) | exact HK.out)) (fun k_ hs_ => (fun e_ => (HO_4.out.1 k_ e_.symm)) hs_)); (case side3 => exact HC0_1.out); (case side4 => exact Kd.R_tight rfl HO_4.out); rintro e w34 ⟨rfl, hy0, hb, hkp⟩; refine ⟨_, rfl, ?_⟩; have n0_ := Aside0.mk (Kd.R_reok rfl hy0 (fun k_ e_ => HO_4.out.1 k_ e_)); have n1_ := Aside0.mk (blk_kept (by (with_reducible repeat (first | refine blk_drewN ?_ _ | refine blk_drew ?_ | refine blk_alloc ?_ _)); exact BK220.out) hkp (fun hs_ => (fun e_ => (Kd.R_ne HO_4.out BK220.out (by decide)) e_) hs_)); have n2_ := Aside0.mk (Kept.then_ (S := (fun k_ => P4_ k_)) (by repeat (first | (with_reducible first | exact HK.out | apply Kept.alloc | apply Kept.drewN | apply Kept.drew | refine Kept.setCell ?_ (.inr GW220.out) _) | exact HK.out)) hkp (fun k_ hs_ => (fun e_ => (HO_4.out.1 k_ e_.symm)) hs_)); have n3_ := Aside0.mk (hb); clear HO_4; clear BK220; clear HK; clear HB; have HO_4 := n0_; have BK220 := n1_; have HK := n2_; have HB := n3_; clear n0_ n1_ n2_ n3_; (try clear hb); (try clear hkp); (try clear hy0)))
               (try simp only [← hl4_1])
               go_roundg kj21
               case measure => have := HK1.out; have := HJ21.out; omega
               case rel => exact ⟨(t226), (a3), (IntKind.u64.wrap (x14_1 + 1)), (by first | rfl | (simp; done) | (simp [*]; done)), (by first | rfl | (simp; done) | (simp [*]; done)), H', ⟨by have := HK1.out; have := HJ21.out; omega⟩, ⟨by (try simp only [hl4_1]); (with_reducible repeat (first | apply Kd.R_alloc | apply Kd.R_drewN | apply Kd.R_drew)); exact HO_4.out⟩, ⟨by (try simp only [hl4_1]); (with_reducible repeat (first | refine blk_drewN ?_ _ | refine blk_drew ?_ | refine blk_alloc ?_ _)); exact BK220.out⟩, ⟨by repeat (first | (with_reducible first | exact HK.out | apply Kept.alloc | apply Kept.drewN | apply Kept.drew | refine Kept.setCell ?_ (.inr GW220.out) _) | exact HK.out)⟩, ⟨by repeat (first | (with_reducible first | exact HB.out | apply below_alloc | apply pw_below_drewN | apply below_drew1 | refine below_set ?_ GE220.out) | exact HB.out)⟩⟩
              ·rw [if_neg c32] at H
               have c32b0 : (t225 == a3) = false := beq_eq_false_iff_ne.mpr c32
               have c32b1 : (t225 != a3) = true := bne_iff_ne.mpr c32
               have H' := Aside0.mk H
               clear H
               have hcz35_0 : wc.cell? ⟨gb220, 0, none⟩ = some (.int .i64 a0_0) := (blk_cell BK220.out 0).trans rfl
               have hcz35_1 : wc.cell? ⟨gb220, 1, none⟩ = some (.slice A0_1 l0_1.length c0_1) := (blk_cell BK220.out 1).trans rfl
               have hfz35_0 := blk_frozen BK220.out 0
               have hfz35_1 := blk_frozen BK220.out 1
               go_wp2_with (first | ((with_reducible refine gate_callee (f := 38) rfl ?_); refine goesL_ (some 72) rfl rfl Tryd.func38 (by kernel_rfl) rfl #[.agg #[.int .i64 a0_0, .slice A0_1 l0_1.length c0_1], .int .i64 (Go.bits .or .i64 a1 (ji30)), .int .i64 a2, .int .i64 2, .slice (some ad221) x4_1.length co20] rfl (by (try simp only [List.map_toArray, List.map_cons, List.map_nil]); first | done | (simp only [hji30]; rfl) | rfl | (simp only [List.length_drop, List.length_take]; rfl)) ?_; (with_reducible refine (ih kj21 (by have := HK1.out; have := HJ21.out; omega) a0_0 _ _ l0_1 (Go.bits .or .i64 a1 (ji30)) a2 2 (fun k_ => some k_ = (.slice (some ad221) x4_1.length co20 : Value).ownBlock) (.slice (some ad221) x4_1.length co20) x4_1 t225 t226 w0 _ ?side1 ?side2 ?side3 ?side4 A31.out).mono ?_); (case side1 => repeat (first | (with_reducible first | exact HB.out | apply below_alloc | apply pw_below_drewN | apply below_drew1 | refine below_set ?_ GE220.out) | exact HB.out)); (case side2 => exact Kd.C_kept_call HR0_1.out (by repeat (first | (with_reducible first | exact HK.out | apply Kept.alloc | apply Kept.drewN | apply Kept.drew | refine Kept.setCell ?_ (.inr GW220.out) _) | exact HK.out)) (fun k_ hs_ => (fun e_ => (HO_4.out.1 k_ e_.symm)) hs_)); (case side3 => exact HC0_1.out); (case side4 => exact Kd.R_tight rfl HO_4.out); rintro e w36 ⟨rfl, hy0, hb, hkp⟩; refine ⟨_, rfl, ?_⟩; have n0_ := Aside0.mk (Kd.R_reok rfl hy0 (fun k_ e_ => HO_4.out.1 k_ e_)); have n1_ := Aside0.mk (blk_kept (by (with_reducible repeat (first | refine blk_drewN ?_ _ | refine blk_drew ?_ | refine blk_alloc ?_ _)); exact BK220.out) hkp (fun hs_ => (fun e_ => (Kd.R_ne HO_4.out BK220.out (by decide)) e_) hs_)); have n2_ := Aside0.mk (Kept.then_ (S := (fun k_ => P4_ k_)) (by repeat (first | (with_reducible first | exact HK.out | apply Kept.alloc | apply Kept.drewN | apply Kept.drew | refine Kept.setCell ?_ (.inr GW220.out) _) | exact HK.out)) hkp (fun k_ hs_ => (fun e_ => (HO_4.out.1 k_ e_.symm)) hs_)); have n3_ := Aside0.mk (hb); clear HO_4; clear BK220; clear HK; clear HB; have HO_4 := n0_; have BK220 := n1_; have HK := n2_; have HB := n3_; clear n0_ n1_ n2_ n3_; (try clear hb); (try clear hkp); (try clear hy0)))
               (try simp only [← hl4_1])
               go_roundg kj21
               case measure => have := HK1.out; have := HJ21.out; omega
               case rel => exact ⟨(t226), (x13_1), (IntKind.u64.wrap (x14_1 + 1)), (by first | rfl | (simp; done) | (simp [*]; done)), (by first | rfl | (simp; done) | (simp [*]; done)), H', ⟨by have := HK1.out; have := HJ21.out; omega⟩, ⟨by (try simp only [hl4_1]); (with_reducible repeat (first | apply Kd.R_alloc | apply Kd.R_drewN | apply Kd.R_drew)); exact HO_4.out⟩, ⟨by (try simp only [hl4_1]); (with_reducible repeat (first | refine blk_drewN ?_ _ | refine blk_drew ?_ | refine blk_alloc ?_ _)); exact BK220.out⟩, ⟨by repeat (first | (with_reducible first | exact HK.out | apply Kept.alloc | apply Kept.drewN | apply Kept.drew | refine Kept.setCell ?_ (.inr GW220.out) _) | exact HK.out)⟩, ⟨by repeat (first | (with_reducible first | exact HB.out | apply below_alloc | apply pw_below_drewN | apply below_drew1 | refine below_set ?_ GE220.out) | exact HB.out)⟩⟩
             ·rw [if_neg c28] at H
              have c28b0 : (a3 == 1) = false := beq_eq_false_iff_ne.mpr c28
              have c28b1 : (a3 != 1) = true := bne_iff_ne.mpr c28
              have c37b0 := eq_true (oda : 0 ≤ x14_1)
              obtain ⟨ji38, hji38⟩ : ∃ j_ : Int, (shl .i64 1 x14_1) = j_ := ⟨_, rfl⟩
              replace H : ((spec_l10Winner.f kj21 a0_0 l0_1 a1 (Go.bits .or .i64 a2 (ji38)) 1 x4_1).bind fun bt227 => (if bt227.1 = a3 then (spec_l10Winner.l0 kj21 a1 a2 a3 bt227.2 ji6 ji9 a3 (IntKind.u64.wrap (x14_1 + 1)) a0_0 l0_1) else (spec_l10Winner.l0 kj21 a1 a2 a3 bt227.2 ji6 ji9 x13_1 (IntKind.u64.wrap (x14_1 + 1)) a0_0 l0_1))) = some (r1, r2) := by first | (rw [hji38] at H; exact H) | (simp only [hji38] at H ⊢; exact H)
              have hji38_ : (IntKind.i64.wrap (1 * 2 ^ min x14_1.toNat 64)) = ji38 := hji38
              have hji38z : x14_1 ≤ 64 → (IntKind.i64.wrap (1 * 2 ^ x14_1.toNat)) = ji38 := shl_small hji38
              have hji38u : (IntKind.i64.wrap (2 ^ min x14_1.toNat 64)) = ji38 := by have h_ := hji38_; rw [Int.one_mul] at h_; exact h_
              have hji38v : x14_1 ≤ 64 → (IntKind.i64.wrap (2 ^ x14_1.toNat)) = ji38 := fun hle_ => by have h_ := hji38z hle_; rw [Int.one_mul] at h_; exact h_
              have hji38y : (wrap64 (1 * 2 ^ min x14_1.toNat 64)) = ji38 := (i64_w _).symm.trans hji38_
              have hji38x : x14_1 ≤ 64 → (wrap64 (1 * 2 ^ x14_1.toNat)) = ji38 := fun h_ => (i64_w _).symm.trans (hji38z h_)
              replace H := Option.bind_eq_some_iff.mp H
              obtain ⟨⟨t227, t228⟩, A390, H⟩ := H
              replace H : (if t227 = a3 then (spec_l10Winner.l0 kj21 a1 a2 a3 t228 ji6 ji9 a3 (IntKind.u64.wrap (x14_1 + 1)) a0_0 l0_1) else (spec_l10Winner.l0 kj21 a1 a2 a3 t228 ji6 ji9 x13_1 (IntKind.u64.wrap (x14_1 + 1)) a0_0 l0_1)) = some (r1, r2) := H
              have A39 := Aside0.mk A390
              clear A390
              by_cases c40 : t227 = a3
              ·rw [if_pos c40] at H
               have c40b0 : (t227 == a3) = true := beq_iff_eq.mpr c40
               have c40b1 : (t227 != a3) = false := bne_eq_false_iff_eq.mpr c40
               clear c40
               have H' := Aside0.mk H
               clear H
               have hcz41_0 : wc.cell? ⟨gb220, 0, none⟩ = some (.int .i64 a0_0) := (blk_cell BK220.out 0).trans rfl
               have hcz41_1 : wc.cell? ⟨gb220, 1, none⟩ = some (.slice A0_1 l0_1.length c0_1) := (blk_cell BK220.out 1).trans rfl
               have hfz41_0 := blk_frozen BK220.out 0
               have hfz41_1 := blk_frozen BK220.out 1
               go_wp2_with (first | ((with_reducible refine gate_callee (f := 38) rfl ?_); refine goesL_ (some 80) rfl rfl Tryd.func38 (by kernel_rfl) rfl #[.agg #[.int .i64 a0_0, .slice A0_1 l0_1.length c0_1], .int .i64 a1, .int .i64 (Go.bits .or .i64 a2 (ji38)), .int .i64 1, .slice (some ad221) x4_1.length co20] rfl (by (try simp only [List.map_toArray, List.map_cons, List.map_nil]); first | done | (simp only [hji38]; rfl) | rfl | (simp only [List.length_drop, List.length_take]; rfl)) ?_; (with_reducible refine (ih kj21 (by have := HK1.out; have := HJ21.out; omega) a0_0 _ _ l0_1 a1 (Go.bits .or .i64 a2 (ji38)) 1 (fun k_ => some k_ = (.slice (some ad221) x4_1.length co20 : Value).ownBlock) (.slice (some ad221) x4_1.length co20) x4_1 t227 t228 w0 _ ?side1 ?side2 ?side3 ?side4 A39.out).mono ?_); (case side1 => repeat (first | (with_reducible first | exact HB.out | apply below_alloc | apply pw_below_drewN | apply below_drew1 | refine below_set ?_ GE220.out) | exact HB.out)); (case side2 => exact Kd.C_kept_call HR0_1.out (by repeat (first | (with_reducible first | exact HK.out | apply Kept.alloc | apply Kept.drewN | apply Kept.drew | refine Kept.setCell ?_ (.inr GW220.out) _) | exact HK.out)) (fun k_ hs_ => (fun e_ => (HO_4.out.1 k_ e_.symm)) hs_)); (case side3 => exact HC0_1.out); (case side4 => exact Kd.R_tight rfl HO_4.out); rintro e w42 ⟨rfl, hy0, hb, hkp⟩; refine ⟨_, rfl, ?_⟩; have n0_ := Aside0.mk (Kd.R_reok rfl hy0 (fun k_ e_ => HO_4.out.1 k_ e_)); have n1_ := Aside0.mk (blk_kept (by (with_reducible repeat (first | refine blk_drewN ?_ _ | refine blk_drew ?_ | refine blk_alloc ?_ _)); exact BK220.out) hkp (fun hs_ => (fun e_ => (Kd.R_ne HO_4.out BK220.out (by decide)) e_) hs_)); have n2_ := Aside0.mk (Kept.then_ (S := (fun k_ => P4_ k_)) (by repeat (first | (with_reducible first | exact HK.out | apply Kept.alloc | apply Kept.drewN | apply Kept.drew | refine Kept.setCell ?_ (.inr GW220.out) _) | exact HK.out)) hkp (fun k_ hs_ => (fun e_ => (HO_4.out.1 k_ e_.symm)) hs_)); have n3_ := Aside0.mk (hb); clear HO_4; clear BK220; clear HK; clear HB; have HO_4 := n0_; have BK220 := n1_; have HK := n2_; have HB := n3_; clear n0_ n1_ n2_ n3_; (try clear hb); (try clear hkp); (try clear hy0)))
               (try simp only [← hl4_1])
               go_roundg kj21
               case measure => have := HK1.out; have := HJ21.out; omega
               case rel => exact ⟨(t228), (a3), (IntKind.u64.wrap (x14_1 + 1)), (by first | rfl | (simp; done) | (simp [*]; done)), (by first | rfl | (simp; done) | (simp [*]; done)), H', ⟨by have := HK1.out; have := HJ21.out; omega⟩, ⟨by (try simp only [hl4_1]); (with_reducible repeat (first | apply Kd.R_alloc | apply Kd.R_drewN | apply Kd.R_drew)); exact HO_4.out⟩, ⟨by (try simp only [hl4_1]); (with_reducible repeat (first | refine blk_drewN ?_ _ | refine blk_drew ?_ | refine blk_alloc ?_ _)); exact BK220.out⟩, ⟨by repeat (first | (with_reducible first | exact HK.out | apply Kept.alloc | apply Kept.drewN | apply Kept.drew | refine Kept.setCell ?_ (.inr GW220.out) _) | exact HK.out)⟩, ⟨by repeat (first | (with_reducible first | exact HB.out | apply below_alloc | apply pw_below_drewN | apply below_drew1 | refine below_set ?_ GE220.out) | exact HB.out)⟩⟩
              ·rw [if_neg c40] at H
               have c40b0 : (t227 == a3) = false := beq_eq_false_iff_ne.mpr c40
               have c40b1 : (t227 != a3) = true := bne_iff_ne.mpr c40
               have H' := Aside0.mk H
               clear H
               have hcz43_0 : wc.cell? ⟨gb220, 0, none⟩ = some (.int .i64 a0_0) := (blk_cell BK220.out 0).trans rfl
               have hcz43_1 : wc.cell? ⟨gb220, 1, none⟩ = some (.slice A0_1 l0_1.length c0_1) := (blk_cell BK220.out 1).trans rfl
               have hfz43_0 := blk_frozen BK220.out 0
               have hfz43_1 := blk_frozen BK220.out 1
               go_wp2_with (first | ((with_reducible refine gate_callee (f := 38) rfl ?_); refine goesL_ (some 80) rfl rfl Tryd.func38 (by kernel_rfl) rfl #[.agg #[.int .i64 a0_0, .slice A0_1 l0_1.length c0_1], .int .i64 a1, .int .i64 (Go.bits .or .i64 a2 (ji38)), .int .i64 1, .slice (some ad221) x4_1.length co20] rfl (by (try simp only [List.map_toArray, List.map_cons, List.map_nil]); first | done | (simp only [hji38]; rfl) | rfl | (simp only [List.length_drop, List.length_take]; rfl)) ?_; (with_reducible refine (ih kj21 (by have := HK1.out; have := HJ21.out; omega) a0_0 _ _ l0_1 a1 (Go.bits .or .i64 a2 (ji38)) 1 (fun k_ => some k_ = (.slice (some ad221) x4_1.length co20 : Value).ownBlock) (.slice (some ad221) x4_1.length co20) x4_1 t227 t228 w0 _ ?side1 ?side2 ?side3 ?side4 A39.out).mono ?_); (case side1 => repeat (first | (with_reducible first | exact HB.out | apply below_alloc | apply pw_below_drewN | apply below_drew1 | refine below_set ?_ GE220.out) | exact HB.out)); (case side2 => exact Kd.C_kept_call HR0_1.out (by repeat (first | (with_reducible first | exact HK.out | apply Kept.alloc | apply Kept.drewN | apply Kept.drew | refine Kept.setCell ?_ (.inr GW220.out) _) | exact HK.out)) (fun k_ hs_ => (fun e_ => (HO_4.out.1 k_ e_.symm)) hs_)); (case side3 => exact HC0_1.out); (case side4 => exact Kd.R_tight rfl HO_4.out); rintro e w44 ⟨rfl, hy0, hb, hkp⟩; refine ⟨_, rfl, ?_⟩; have n0_ := Aside0.mk (Kd.R_reok rfl hy0 (fun k_ e_ => HO_4.out.1 k_ e_)); have n1_ := Aside0.mk (blk_kept (by (with_reducible repeat (first | refine blk_drewN ?_ _ | refine blk_drew ?_ | refine blk_alloc ?_ _)); exact BK220.out) hkp (fun hs_ => (fun e_ => (Kd.R_ne HO_4.out BK220.out (by decide)) e_) hs_)); have n2_ := Aside0.mk (Kept.then_ (S := (fun k_ => P4_ k_)) (by repeat (first | (with_reducible first | exact HK.out | apply Kept.alloc | apply Kept.drewN | apply Kept.drew | refine Kept.setCell ?_ (.inr GW220.out) _) | exact HK.out)) hkp (fun k_ hs_ => (fun e_ => (HO_4.out.1 k_ e_.symm)) hs_)); have n3_ := Aside0.mk (hb); clear HO_4; clear BK220; clear HK; clear HB; have HO_4 := n0_; have BK220 := n1_; have HK := n2_; have HB := n3_; clear n0_ n1_ n2_ n3_; (try clear hb); (try clear hkp); (try clear hy0)))
               (try simp only [← hl4_1])
               go_roundg kj21
               case measure => have := HK1.out; have := HJ21.out; omega
               case rel => exact ⟨(t228), (x13_1), (IntKind.u64.wrap (x14_1 + 1)), (by first | rfl | (simp; done) | (simp [*]; done)), (by first | rfl | (simp; done) | (simp [*]; done)), H', ⟨by have := HK1.out; have := HJ21.out; omega⟩, ⟨by (try simp only [hl4_1]); (with_reducible repeat (first | apply Kd.R_alloc | apply Kd.R_drewN | apply Kd.R_drew)); exact HO_4.out⟩, ⟨by (try simp only [hl4_1]); (with_reducible repeat (first | refine blk_drewN ?_ _ | refine blk_drew ?_ | refine blk_alloc ?_ _)); exact BK220.out⟩, ⟨by repeat (first | (with_reducible first | exact HK.out | apply Kept.alloc | apply Kept.drewN | apply Kept.drew | refine Kept.setCell ?_ (.inr GW220.out) _) | exact HK.out)⟩, ⟨by repeat (first | (with_reducible first | exact HB.out | apply below_alloc | apply pw_below_drewN | apply below_drew1 | refine below_set ?_ GE220.out) | exact HB.out)⟩⟩
           ·rw [if_neg c25] at H
            exact absurd H (by simp)
          ·replace c24 := Bool.eq_false_iff.mpr c24
           subst c24
           have H1 : (if 0 ≤ ji9 then (if ji9 < (x4_1.length : Int) then (some (x13_1, (x4_1.set (ji9 : Int).toNat x13_1))) else (none)) else (none)) = some (r1, r2) := by rw [if_neg (show ¬ (false = true) by decide)] at H; exact H
           clear H
           have H := H1
           clear H1
           by_cases c45 : 0 ≤ ji9
           ·rw [if_pos c45] at H
            have c45b0 : decide (0 ≤ ji9) = true := decide_eq_true c45
            clear c45
            by_cases c46 : ji9 < (x4_1.length : Int)
            ·rw [if_pos c46] at H
             have c46b0 : decide (ji9 < (x4_1.length : Int)) = true := decide_eq_true c46
             clear c46
             obtain ⟨y224, hy224⟩ : ∃ y_ : List Int, y_ = (x4_1.set (ji9 : Int).toNat x13_1) := ⟨_, rfl⟩
             replace H : (some (x13_1, y224)) = some (r1, r2) := by first | (rw [hy224]; with_reducible exact H) | (have H2_ := (Option.bind_some _ _).symm.trans H; rw [hy224]; with_reducible exact H2_) | (have H2_ := (Option.bind_some _ _).symm.trans H; with_reducible exact H2_) | with_reducible exact H | (rw [hy224]; exact H) | exact H
             have Ny224 := Aside0.mk hy224
             clear hy224
             simp only [Option.some.injEq, Prod.mk.injEq] at H
             obtain ⟨rfl, rfl⟩ := H
             have p47 : 0 ≤ (ji9 : Int) := oda
             have q47 : (ji9 : Int) < ((x4_1.length : Int) : Int) := oda
             obtain ⟨go47, co47, eo47, gb47, gl47, cl47, HG47⟩ := Kd.R_form HO_4.out (by omega)
             (first | cases eo47 | (injection eo47 with ea_ en_ ec_; (first | subst ea_ | (injection ea_ with ea_; subst ea_)); subst ec_; clear en_))
             have GB47 := Aside0.mk gb47
             have GG47 := Aside0.mk HG47
             clear gb47 gl47 HG47
             have HMgo47 := Aside0.mk (show (P4_ go47 ∨ w.heap.size ≤ go47) from (HO_4.out.1 _ rfl))
             (first | simp only [add_plain] at hx221_0 | skip)
             (first | simp only [add_plain] at hx222_0 | skip)
             obtain ⟨hx47_0, hf47_0⟩ := Kd.R_celln 0 HO_4.out (ji9 : Int) p47 q47
             replace p47 := eq_true p47
             replace q47 := eq_true q47
             have HP48 := Kd.R_putg HO_4.out (ji9 : Int) x13_1
             go_wp2_with (first | ((with_reducible refine gate_store (t := 2) (p := 88) rfl ?_); refine store_event (t := 2) (p := 88) (v := ?vo_w49) (w1 := (wc.setCell ⟨go47, (ji9 : Int).toNat, none⟩ (.int .i64 x13_1))) ?hg ?ho ?hn ?hr ?_; (case ho => rfl); (case hg => rfl); (case hn => rfl); (case hr => first | (go_simp; done) | (go_simp; rfl)); intro w49 hw; have hg : wc.grownBy w49 (some go47) := (by rw [hw]; exact HP48.2); have hp_ : Kd.R (Kd.int .i64) 2 w49 w0.heap.size (fun k_ => (P4_ k_ ∨ w.heap.size ≤ k_)) (.slice (some ⟨go47, 0, none⟩) x4_1.length co20) y224 := (by rw [hw, Ny224.out]; exact HP48.1); clear HP48; have n0_ := Aside0.mk (hp_); have n1_ := Aside0.mk (blk_grown (g := gb220) (o := .cells #[.int .i64 a0_0, .slice A0_1 l0_1.length c0_1] 28 (0, 0)) (by (with_reducible repeat (first | refine blk_drewN ?_ _ | refine blk_drew ?_ | refine blk_alloc ?_ _)); exact BK220.out) hg (Kd.R_ne HO_4.out BK220.out (by decide))); have n2_ := Aside0.mk ((by rw [hw]; exact below_set (HB.out) GB47.out : Below w0.heap.size w0 w49)); have n3_ := Aside0.mk (Kept.of_grown (S := (fun k_ => P4_ k_)) hg (by repeat (first | (with_reducible first | exact HK.out | apply Kept.alloc | apply Kept.drewN | apply Kept.drew | refine Kept.setCell ?_ (.inr GW220.out) _) | exact HK.out)) (fun k_ e_ => (HO_4.out.1 k_ e_))); clear HO_4; clear BK220; clear HB; clear HK; have HO_4 := n0_; have BK220 := n1_; have HB := n2_; have HK := n3_; clear n0_ n1_ n2_ n3_; clear hg hw hp_))
             go_ret
             exact ⟨by first | rfl | (simp [errW_none, errW_some] <;> rfl) | (simp only [← hji6, ← hji8, ← hji9]; first | rfl | (simp [errW_none, errW_some] <;> rfl)) | (simp [*, errW_none, errW_some] <;> rfl), (by first | exact (by (with_reducible repeat (first | apply Kd.R_alloc | apply Kd.R_drewN | apply Kd.R_drew)); exact HO_4.out) | (simp only [hl4_1]; exact (by (with_reducible repeat (first | apply Kd.R_alloc | apply Kd.R_drewN | apply Kd.R_drew)); exact HO_4.out))), by repeat (first | (with_reducible first | exact HB.out | apply below_alloc | apply pw_below_drewN | apply below_drew1 | refine below_set ?_ GE220.out) | exact HB.out), by repeat (first | (with_reducible first | exact HK.out | apply Kept.alloc | apply Kept.drewN | apply Kept.drew | refine Kept.setCell ?_ (.inr GW220.out) _) | exact HK.out)⟩
            ·rw [if_neg c46] at H
             exact absurd H (by simp)
           ·rw [if_neg c45] at H
            exact absurd H (by simp)
     ·rw [if_neg c17] at H
      have c17b0 : (t223 == 0) = false := beq_eq_false_iff_ne.mpr c17
      have c17b1 : (t223 != 0) = true := bne_iff_ne.mpr c17
      obtain ⟨y229, hy229⟩ : ∃ y_ : List Int, y_ = (l4.set ((ji9) : Int).toNat t223) := ⟨_, rfl⟩
      replace H : (some (t223, y229)) = some (r1, r2) := by first | (rw [hy229]; with_reducible exact H) | (have H2_ := (Option.bind_some _ _).symm.trans H; rw [hy229]; with_reducible exact H2_) | (have H2_ := (Option.bind_some _ _).symm.trans H; with_reducible exact H2_) | with_reducible exact H | (rw [hy229]; exact H) | exact H
      have Ny229 := Aside0.mk hy229
      clear hy229
      simp only [Option.some.injEq, Prod.mk.injEq] at H
      obtain ⟨rfl, rfl⟩ := H
      go_enter Tryd.func38, Tryd.ntmps38
      go_wp2_with (first | ((with_reducible refine gate_dst (N := 5) rfl ?_); refine box_event ?hg (N := 5) ?hd (cs := #[.int .i64 a0_0, .slice A0_1 l0_1.length c0_1]) (t := 28) ?hr ?_; (case hd => rfl); (case hg => rfl); (case hr => first | (go_simp; done) | (go_simp; rfl)); intro gb220 hg w51 hbox hb; have n0_ := Aside0.mk (Kd.R_below (by (with_reducible repeat (first | apply Kd.R_alloc | apply Kd.R_drewN | apply Kd.R_drew)); exact HO4.out) hb); have n1_ := Aside0.mk (Kept.below (S := (fun k_ => P4_ k_)) (by repeat (first | (with_reducible first | exact HK.out | apply Kept.alloc | apply Kept.drewN | apply Kept.drew) | exact HK.out)) hb); have n2_ := Aside0.mk (below_step hb_ hb); have n3_ := Aside0.mk (hbox); have n4_ := Aside0.mk ((by rw [hg]; exact (by first | exact HK.out.1 | exact (show Kept w _ (fun k_ => P4_ k_) from by repeat (first | (with_reducible first | exact HK.out | apply Kept.alloc | apply Kept.drewN | apply Kept.drew) | exact HK.out)).1) : w.heap.size ≤ gb220)); have n5_ := Aside0.mk ((by rw [hg]; exact (below_size hb_) : w0.heap.size ≤ gb220)); clear HO4; clear HK; clear HB; have HO4 := n0_; have HK := n1_; have HB := n2_; have BK220 := n3_; have GW220 := n4_; have GE220 := n5_; clear n0_ n1_ n2_ n3_ n4_ n5_; clear hb hbox hg; have hcz52_0 : w51.cell? ⟨gb220, 0, none⟩ = some (.int .i64 a0_0) := (blk_cell BK220.out 0).trans rfl; have hcz52_1 : w51.cell? ⟨gb220, 1, none⟩ = some (.slice A0_1 l0_1.length c0_1) := (blk_cell BK220.out 1).trans rfl; have hfz52_0 := blk_frozen BK220.out 0; have hfz52_1 := blk_frozen BK220.out 1; obtain ⟨Ao53, co53, eo53⟩ := Kd.R_slice HO4.out; subst eo53; have p221 : 0 ≤ ((ji9) : Int) := oda; have q221 : (ji9) < (l4.length : Int) := oda; obtain ⟨ad221, e221, hx221_0⟩ := Kd.at_int (Kd.R_reads' HO4.out).2.2 (ji9) p221 q221; cases e221; replace p221 := eq_true p221; replace q221 := eq_true q221) | ((with_reducible refine gate_callee (f := 33) rfl ?_); refine goesA_ (some 41) rfl rfl Tryd.func33 (by kernel_rfl) rfl #[.agg #[.int .i64 a0_0, .slice A0_1 l0_1.length c0_1], .int .i64 a1, .int .i64 a2] rfl ?_; (with_reducible refine (spec_l10Over.calls k a0_0 _ _ l0_1 a1 a2 t223 _ ?side1 ?side2 A16.out).mono ?_); (case side1 => exact Kd.C_kept_now HR0_1.out (by repeat (first | (with_reducible first | exact HK.out | apply Kept.alloc | apply Kept.drewN | apply Kept.drew | refine Kept.setCell ?_ (.inr GW220.out) _) | exact HK.out))); (case side2 => exact HC0_1.out); rintro e w54 ⟨rfl, hb⟩; refine ⟨_, rfl, ?_⟩; have n0_ := Aside0.mk (Kd.R_below (by (with_reducible repeat (first | apply Kd.R_alloc | apply Kd.R_drewN | apply Kd.R_drew)); exact HO4.out) hb); have n1_ := Aside0.mk (blk_below (g := gb220) (o := .cells #[.int .i64 a0_0, .slice A0_1 l0_1.length c0_1] 28 (0, 0)) (by (with_reducible repeat (first | refine blk_drewN ?_ _ | refine blk_drew ?_ | refine blk_alloc ?_ _)); exact BK220.out) hb); have n2_ := Aside0.mk (Kept.below (S := (fun k_ => P4_ k_)) (by repeat (first | (with_reducible first | exact HK.out | apply Kept.alloc | apply Kept.drewN | apply Kept.drew | refine Kept.setCell ?_ (.inr GW220.out) _) | exact HK.out)) hb); have n3_ := Aside0.mk (below_step (by repeat (first | (with_reducible first | exact HB.out | apply below_alloc | apply pw_below_drewN | apply below_drew1 | refine below_set ?_ GE220.out) | exact HB.out)) hb); clear HO4; clear BK220; clear HK; clear HB; have HO4 := n0_; have BK220 := n1_; have HK := n2_; have HB := n3_; clear n0_ n1_ n2_ n3_; (try clear hb); (try clear hb2); (try clear hk); (try clear hi); have p50 : 0 ≤ ((ji9) : Int) := oda; have q50 : ((ji9) : Int) < ((l4.length : Int) : Int) := oda; obtain ⟨go50, co50, eo50, gb50, gl50, cl50, HG50⟩ := Kd.R_form HO4.out (by omega); (first | cases eo50 | (injection eo50 with ea_ en_ ec_; (first | subst ea_ | (injection ea_ with ea_; subst ea_)); subst ec_; clear en_)); have GB50 := Aside0.mk gb50; have GG50 := Aside0.mk HG50; clear gb50 gl50 HG50; have HMgo50 := Aside0.mk (show (P4_ go50 ∨ w.heap.size ≤ go50) from (HO4.out.1 _ rfl)); (first | simp only [add_plain] at hx221_0 | skip); obtain ⟨hx50_0, hf50_0⟩ := Kd.R_celln 0 HO4.out ((ji9) : Int) p50 q50; replace p50 := eq_true p50; replace q50 := eq_true q50; obtain ⟨hy55_, hz55_⟩ := Kd.R_celln 0 HO4.out ((ji9) : Int) (oda) (oda); have HP55 := Kd.R_putg HO4.out ((ji9) : Int) t223) | ((with_reducible refine gate_store (t := 2) (p := 88) rfl ?_); refine store_event (t := 2) (p := 88) (v := ?vo_w56) (w1 := (w54.setCell ⟨go50, ((ji9) : Int).toNat, none⟩ (.int .i64 t223))) ?hg ?ho ?hn ?hr ?_; (case ho => rfl); (case hg => rfl); (case hn => rfl); (case hr => first | (go_simp; done) | (go_simp; rfl)); intro w56 hw; have hg : w54.grownBy w56 (some go50) := (by rw [hw]; exact HP55.2); have hp_ : Kd.R (Kd.int .i64) 2 w56 w0.heap.size (fun k_ => (P4_ k_ ∨ w.heap.size ≤ k_)) (.slice (some ⟨go50, 0, none⟩) l4.length co53) y229 := (by rw [hw, Ny229.out]; exact HP55.1); clear HP55; have n0_ := Aside0.mk (hp_); have n1_ := Aside0.mk (blk_grown (g := gb220) (o := .cells #[.int .i64 a0_0, .slice A0_1 l0_1.length c0_1] 28 (0, 0)) (by (with_reducible repeat (first | refine blk_drewN ?_ _ | refine blk_drew ?_ | refine blk_alloc ?_ _)); exact BK220.out) hg (Kd.R_ne HO4.out BK220.out (by decide))); have n2_ := Aside0.mk ((by rw [hw]; exact below_set (HB.out) GB50.out : Below w0.heap.size w0 w56)); have n3_ := Aside0.mk (Kept.of_grown (S := (fun k_ => P4_ k_)) hg (by repeat (first | (with_reducible first | exact HK.out | apply Kept.alloc | apply Kept.drewN | apply Kept.drew | refine Kept.setCell ?_ (.inr GW220.out) _) | exact HK.out)) (fun k_ e_ => (HO4.out.1 k_ e_))); clear HO4; clear BK220; clear HB; clear HK; have HO4 := n0_; have BK220 := n1_; have HB := n2_; have HK := n3_; clear n0_ n1_ n2_ n3_; clear hg hw hp_))
      go_ret
      exact ⟨by first | rfl | (simp [errW_none, errW_some] <;> rfl) | (simp only [← hji6, ← hji8, ← hji9]; first | rfl | (simp [errW_none, errW_some] <;> rfl)) | (simp [*, errW_none, errW_some] <;> rfl), by (with_reducible repeat (first | apply Kd.R_alloc | apply Kd.R_drewN | apply Kd.R_drew)); exact HO4.out, by repeat (first | (with_reducible first | exact HB.out | apply below_alloc | apply pw_below_drewN | apply below_drew1 | refine below_set ?_ GE220.out) | exact HB.out), by repeat (first | (with_reducible first | exact HK.out | apply Kept.alloc | apply Kept.drewN | apply Kept.drew | refine Kept.setCell ?_ (.inr GW220.out) _) | exact HK.out)⟩
   ·rw [if_neg c11] at H
    exact absurd H (by simp)
  ·rw [if_neg c10] at H
   exact absurd H (by simp)
 ·rw [if_neg c7] at H
  exact absurd H (by simp)
/-! ### spec_l10Moves: function 43 -/
def spec_l10Moves.l0 : Nat → Int → Int → Int → List Int → List Int → Int → Int → List (List Int) → Option (List Int × List Int)
 | 0, _, _, _, _, _, _, _, _ => none
 | k + 1, x1, x2, x3, x4, x11, x12, x268000, x268001 => if x12 < (x268001.length : Int) then (if 0 ≤ (IntKind.u64.wrap (x12)) then (if (Go.bits .and .i64 (shr .i64 (Go.bits .or .i64 x1 x2) (IntKind.u64.wrap (x12))) 1) = 1 then (spec_l10Moves.l0 k x1 x2 x3 x4 x11 (wrap64 (x12 + 1)) x268000 x268001) else (if x3 = 1 then ((spec_l10Winner.f k x268000 x268001 (Go.bits .or .i64 x1 (shl .i64 1 (IntKind.u64.wrap (x12)))) x2 2 x4).bind fun bt272 => (if bt272.1 = x3 then (if x11.length < 17592186044416 then (spec_l10Moves.l0 k x1 x2 x3 bt272.2 (x11 ++ [x12]) (wrap64 (x12 + 1)) x268000 x268001) else (none)) else (spec_l10Moves.l0 k x1 x2 x3 bt272.2 x11 (wrap64 (x12 + 1)) x268000 x268001))) else ((spec_l10Winner.f k x268000 x268001 x1 (Go.bits .or .i64 x2 (shl .i64 1 (IntKind.u64.wrap (x12)))) 1 x4).bind fun bt277 => (if bt277.1 = x3 then (if x11.length < 17592186044416 then (spec_l10Moves.l0 k x1 x2 x3 bt277.2 (x11 ++ [x12]) (wrap64 (x12 + 1)) x268000 x268001) else (none)) else (spec_l10Moves.l0 k x1 x2 x3 bt277.2 x11 (wrap64 (x12 + 1)) x268000 x268001))))) else (none)) else (some (x11, x4))
def spec_l10Moves.f (k : Nat) (a0_0 : Int) (l0_1 : List (List Int)) (a1 : Int) (a2 : Int) (a3 : Int) (l4 : List Int) : Option (List Int × List Int) := (some (([] : List Int) : List Int)).bind fun y268 => ((spec_l10Over.f k a0_0 l0_1 a1 a2).bind fun t271 => (if t271 > 0 then (some (y268, l4)) else (spec_l10Moves.l0 k a1 a2 a3 l4 y268 0 a0_0 l0_1)))
set_option maxHeartbeats 8000000 in
set_option maxRecDepth 100000 in
theorem spec_l10Moves.calls (k : Nat) (a0_0 : Int) (A0_1 : Option Addr) (c0_1 : Nat) (l0_1 : List (List Int)) (a1 : Int) (a2 : Int) (a3 : Int) (P4_ : Nat → Prop) (u9000_ : Value) (l4 : List Int) (r1 : List Int) (r2 : List Int) (w0 w : World) (hB : Below w0.heap.size w0 w) (hr0_1 : ∀ W_, Kept w W_ (fun k_ => P4_ k_) → Kd.C (Kd.slice 2 (Kd.int .i64)) W_ A0_1 l0_1.length l0_1) (hc0_1 : l0_1.length ≤ c0_1) (ho4 : Kd.R (Kd.int .i64) 2 w w0.heap.size P4_ u9000_ l4) (h : spec_l10Moves.f k a0_0 l0_1 a1 a2 a3 l4 = some (r1, r2)) :
  Calls Tryd.prog 43 #[.agg #[.int .i64 a0_0, .slice A0_1 l0_1.length c0_1], .int .i64 a1, .int .i64 a2, .int .i64 a3, u9000_] w fun e w' => ∃ v0_ : Value, e = .returned (v0_) ∧ Kd.R (Kd.int .i64) 2 w' w0.heap.size (fun k_ => (P4_ k_ ∨ w.heap.size ≤ k_) ∧ some k_ ≠ (u9000_ : Value).ownBlock) v0_ r1 ∧ Kd.R (Kd.int .i64) 2 w' w0.heap.size (fun k_ => (P4_ k_ ∨ w.heap.size ≤ k_)) u9000_ r2 ∧ Below w0.heap.size w0 w' ∧ Kept w w' (fun k_ => P4_ k_) := by
 have hu28 := Tryd.underlying28
 have HR0_1 := Aside0.mk hr0_1
 have HC0_1 := Aside0.mk hc0_1
 clear hr0_1 hc0_1
 have HO4 := Aside0.mk (show Kd.R (Kd.int .i64) 2 w w0.heap.size (fun k_ => (P4_ k_ ∨ w.heap.size ≤ k_)) u9000_ l4 from Kd.R_mono ho4 (fun k_ hk => (.inl hk)))
 have HK := Aside0.mk (Kept.refl w (fun k_ => P4_ k_))
 have HW0 := Aside0.mk hB.size
 have HB := Aside0.mk hB
 clear hB
 have H : ((some (([] : List Int) : List Int)).bind fun y268 => ((spec_l10Over.f k a0_0 l0_1 a1 a2).bind fun t271 => (if t271 > 0 then (some (y268, l4)) else (spec_l10Moves.l0 k a1 a2 a3 l4 y268 0 a0_0 l0_1)))) = some (r1, r2) := h
 clear h
 obtain ⟨y268, hy268⟩ : ∃ y_ : List Int, y_ = (([] : List Int)) := ⟨_, rfl⟩
 replace H : ((spec_l10Over.f k a0_0 l0_1 a1 a2).bind fun t271 => (if t271 > 0 then (some (y268, l4)) else (spec_l10Moves.l0 k a1 a2 a3 l4 y268 0 a0_0 l0_1))) = some (r1, r2) := by first | (rw [hy268]; with_reducible exact H) | (have H2_ := (Option.bind_some _ _).symm.trans H; rw [hy268]; with_reducible exact H2_) | (have H2_ := (Option.bind_some _ _).symm.trans H; with_reducible exact H2_) | with_reducible exact H | (rw [hy268]; exact H) | exact H
 have Ny268 := Aside0.mk hy268
 clear hy268
 replace H := Option.bind_eq_some_iff.mp H
 obtain ⟨t271, A60, H⟩ := H
 replace H : (if t271 > 0 then (some (y268, l4)) else (spec_l10Moves.l0 k a1 a2 a3 l4 y268 0 a0_0 l0_1)) = some (r1, r2) := H
 have A6 := Aside0.mk A60
 clear A60
 by_cases c7 : t271 > 0
 ·rw [if_pos c7] at H
  have c7b0 : decide (0 < t271) = true := decide_eq_true c7
  clear c7
  simp only [Option.some.injEq, Prod.mk.injEq] at H
  obtain ⟨rfl, rfl⟩ := H
  go_enter Tryd.func43, Tryd.ntmps43
  go_wp2_with (first | ((with_reducible refine gate_dst (N := 5) rfl ?_); refine box_event ?hg (N := 5) ?hd (cs := #[.int .i64 a0_0, .slice A0_1 l0_1.length c0_1]) (t := 28) ?hr ?_; (case hd => rfl); (case hg => rfl); (case hr => first | (go_simp; done) | (go_simp; rfl)); intro gb267 hg w8 hbox hb; have n0_ := Aside0.mk (Kd.R_below (by (with_reducible repeat (first | apply Kd.R_alloc | apply Kd.R_drewN | apply Kd.R_drew)); exact HO4.out) hb); have n1_ := Aside0.mk (Kept.below (S := (fun k_ => P4_ k_)) (by repeat (first | (with_reducible first | exact HK.out | apply Kept.alloc | apply Kept.drewN | apply Kept.drew) | exact HK.out)) hb); have n2_ := Aside0.mk (below_step hb_ hb); have n3_ := Aside0.mk (hbox); have n4_ := Aside0.mk ((by rw [hg]; exact (by first | exact HK.out.1 | exact (show Kept w _ (fun k_ => P4_ k_) from by repeat (first | (with_reducible first | exact HK.out | apply Kept.alloc | apply Kept.drewN | apply Kept.drew) | exact HK.out)).1) : w.heap.size ≤ gb267)); have n5_ := Aside0.mk ((by rw [hg]; exact (below_size hb_) : w0.heap.size ≤ gb267)); clear HO4; clear HK; clear HB; have HO4 := n0_; have HK := n1_; have HB := n2_; have BK267 := n3_; have GW267 := n4_; have GE267 := n5_; clear n0_ n1_ n2_ n3_ n4_ n5_; clear hb hbox hg) | ((with_reducible refine gate_dst (N := 14) rfl ?_); refine Kd.R_lit (Kd.int .i64) _ 2 ?hg (N := 14) ?hd (xs := ([] : List Int)) (inner := []) (ok := fun _ => True) (okp := fun _ => True) ?hr ?hp (fun _ hk => hk) trivial (Below.refl _ _) (Nat.le_refl _) (by simp) ?_; (case hd => rfl); (case hg => rfl); (case hr => first | (go_simp; done) | (go_simp; rfl)); (case hp => exact (Reps.none _ _)); intro v269 w9 ho10 hb hg_ hnew_; clear hg_ hnew_; (first | rw [← Ny268.out] at ho10 | (simp only [Int.reduceToNat] at ho10; rw [← Ny268.out] at ho10)); have n0_ := Aside0.mk (Kd.R_elder' (by (with_reducible repeat (first | apply Kd.R_alloc | apply Kd.R_drewN | apply Kd.R_drew)); exact HO4.out) (Kd.R_base ho10) hb); have n1_ := Aside0.mk (Kd.R_lower (Kd.R_new' (Kd.R_newM (M := fun k_ => (P4_ k_ ∨ w.heap.size ≤ k_)) ho10 (by first | exact HK.out.1 | exact (show Kept w _ (fun k_ => P4_ k_) from by repeat (first | (with_reducible first | exact HK.out | apply Kept.alloc | apply Kept.drewN | apply Kept.drew | refine Kept.setCell ?_ (.inr GW267.out) _) | exact HK.out)).1) (fun k_ h_ => .inr h_)) (Kd.R_lt (by (with_reducible repeat (first | apply Kd.R_alloc | apply Kd.R_drewN | apply Kd.R_drew)); exact HO4.out))) (below_size (by repeat (first | (with_reducible first | exact HB.out | apply below_alloc | apply pw_below_drewN | apply below_drew1 | refine below_set ?_ GE267.out) | exact HB.out)))); have n2_ := Aside0.mk (blk_below (g := gb267) (o := .cells #[.int .i64 a0_0, .slice A0_1 l0_1.length c0_1] 28 (0, 0)) (by (with_reducible repeat (first | refine blk_drewN ?_ _ | refine blk_drew ?_ | refine blk_alloc ?_ _)); exact BK267.out) hb); have n3_ := Aside0.mk (Kept.below (S := (fun k_ => P4_ k_)) (by repeat (first | (with_reducible first | exact HK.out | apply Kept.alloc | apply Kept.drewN | apply Kept.drew | refine Kept.setCell ?_ (.inr GW267.out) _) | exact HK.out)) hb); have n4_ := Aside0.mk (below_step (by repeat (first | (with_reducible first | exact HB.out | apply below_alloc | apply pw_below_drewN | apply below_drew1 | refine below_set ?_ GE267.out) | exact HB.out)) hb); clear HO4; clear BK267; clear HK; clear HB; have HO4 := n0_; have HO270 := n1_; have BK267 := n2_; have HK := n3_; have HB := n4_; clear n0_ n1_ n2_ n3_ n4_; clear hb ho10; have hcz11_0 : w9.cell? ⟨gb267, 0, none⟩ = some (.int .i64 a0_0) := (blk_cell BK267.out 0).trans rfl; have hcz11_1 : w9.cell? ⟨gb267, 1, none⟩ = some (.slice A0_1 l0_1.length c0_1) := (blk_cell BK267.out 1).trans rfl; have hfz11_0 := blk_frozen BK267.out 0; have hfz11_1 := blk_frozen BK267.out 1) | ((with_reducible refine gate_callee (f := 33) rfl ?_); refine goesA_ (some 18) rfl rfl Tryd.func33 (by kernel_rfl) rfl #[.agg #[.int .i64 a0_0, .slice A0_1 l0_1.length c0_1], .int .i64 a1, .int .i64 a2] rfl ?_; (with_reducible refine (spec_l10Over.calls k a0_0 _ _ l0_1 a1 a2 t271 _ ?side1 ?side2 A6.out).mono ?_); (case side1 => exact Kd.C_kept_now HR0_1.out (by repeat (first | (with_reducible first | exact HK.out | apply Kept.alloc | apply Kept.drewN | apply Kept.drew | refine Kept.setCell ?_ (.inr GW267.out) _) | exact HK.out))); (case side2 => exact HC0_1.out); rintro e w12 ⟨rfl, hb⟩; refine ⟨_, rfl, ?_⟩; have n0_ := Aside0.mk (Kd.R_below (by (with_reducible repeat (first | apply Kd.R_alloc | apply Kd.R_drewN | apply Kd.R_drew)); exact HO4.out) hb); have n1_ := Aside0.mk (Kd.R_below (by (with_reducible repeat (first | apply Kd.R_alloc | apply Kd.R_drewN | apply Kd.R_drew)); exact HO270.out) hb); have n2_ := Aside0.mk (blk_below (g := gb267) (o := .cells #[.int .i64 a0_0, .slice A0_1 l0_1.length c0_1] 28 (0, 0)) (by (with_reducible repeat (first | refine blk_drewN ?_ _ | refine blk_drew ?_ | refine blk_alloc ?_ _)); exact BK267.out) hb); have n3_ := Aside0.mk (Kept.below (S := (fun k_ => P4_ k_)) (by repeat (first | (with_reducible first | exact HK.out | apply Kept.alloc | apply Kept.drewN | apply Kept.drew | refine Kept.setCell ?_ (.inr GW267.out) _) | exact HK.out)) hb); have n4_ := Aside0.mk (below_step (by repeat (first | (with_reducible first | exact HB.out | apply below_alloc | apply pw_below_drewN | apply below_drew1 | refine below_set ?_ GE267.out) | exact HB.out)) hb); clear HO4; clear HO270; clear BK267; clear HK; clear HB; have HO4 := n0_; have HO270 := n1_; have BK267 := n2_; have HK := n3_; have HB := n4_; clear n0_ n1_ n2_ n3_ n4_; (try clear hb); (try clear hb2); (try clear hk); (try clear hi)))
  go_ret
  exact ⟨_, by first | rfl | (simp [errW_none, errW_some] <;> rfl) | (simp [*, errW_none, errW_some] <;> rfl), by (with_reducible repeat (first | apply Kd.R_alloc | apply Kd.R_drewN | apply Kd.R_drew)); exact Kd.R_mono HO270.out (fun _ hk => ⟨hk.1.1, hk.2⟩), by (with_reducible repeat (first | apply Kd.R_alloc | apply Kd.R_drewN | apply Kd.R_drew)); exact Kd.R_mono HO4.out (fun _ hk => hk.1), by repeat (first | (with_reducible first | exact HB.out | apply below_alloc | apply pw_below_drewN | apply below_drew1 | refine below_set ?_ GE267.out) | exact HB.out), by repeat (first | (with_reducible first | exact HK.out | apply Kept.alloc | apply Kept.drewN | apply Kept.drew | refine Kept.setCell ?_ (.inr GW267.out) _) | exact HK.out)⟩
 ·rw [if_neg c7] at H
  have c7b0 : decide (0 < t271) = false := decide_eq_false c7
  clear c7
  have H' := Aside0.mk H
  clear H
  go_enter Tryd.func43, Tryd.ntmps43
  go_wp2_with (first | ((with_reducible refine gate_dst (N := 5) rfl ?_); refine box_event ?hg (N := 5) ?hd (cs := #[.int .i64 a0_0, .slice A0_1 l0_1.length c0_1]) (t := 28) ?hr ?_; (case hd => rfl); (case hg => rfl); (case hr => first | (go_simp; done) | (go_simp; rfl)); intro gb267 hg w13 hbox hb; have n0_ := Aside0.mk (Kd.R_below (by (with_reducible repeat (first | apply Kd.R_alloc | apply Kd.R_drewN | apply Kd.R_drew)); exact HO4.out) hb); have n1_ := Aside0.mk (Kept.below (S := (fun k_ => P4_ k_)) (by repeat (first | (with_reducible first | exact HK.out | apply Kept.alloc | apply Kept.drewN | apply Kept.drew) | exact HK.out)) hb); have n2_ := Aside0.mk (below_step hb_ hb); have n3_ := Aside0.mk (hbox); have n4_ := Aside0.mk ((by rw [hg]; exact (by first | exact HK.out.1 | exact (show Kept w _ (fun k_ => P4_ k_) from by repeat (first | (with_reducible first | exact HK.out | apply Kept.alloc | apply Kept.drewN | apply Kept.drew) | exact HK.out)).1) : w.heap.size ≤ gb267)); have n5_ := Aside0.mk ((by rw [hg]; exact (below_size hb_) : w0.heap.size ≤ gb267)); clear HO4; clear HK; clear HB; have HO4 := n0_; have HK := n1_; have HB := n2_; have BK267 := n3_; have GW267 := n4_; have GE267 := n5_; clear n0_ n1_ n2_ n3_ n4_ n5_; clear hb hbox hg) | ((with_reducible refine gate_dst (N := 14) rfl ?_); refine Kd.R_lit (Kd.int .i64) _ 2 ?hg (N := 14) ?hd (xs := ([] : List Int)) (inner := []) (ok := fun _ => True) (okp := fun _ => True) ?hr ?hp (fun _ hk => hk) trivial (Below.refl _ _) (Nat.le_refl _) (by simp) ?_; (case hd => rfl); (case hg => rfl); (case hr => first | (go_simp; done) | (go_simp; rfl)); (case hp => exact (Reps.none _ _)); intro v269 w14 ho15 hb hg_ hnew_; clear hg_ hnew_; (first | rw [← Ny268.out] at ho15 | (simp only [Int.reduceToNat] at ho15; rw [← Ny268.out] at ho15)); have n0_ := Aside0.mk (Kd.R_elder' (by (with_reducible repeat (first | apply Kd.R_alloc | apply Kd.R_drewN | apply Kd.R_drew)); exact HO4.out) (Kd.R_base ho15) hb); have n1_ := Aside0.mk (Kd.R_lower (Kd.R_new' (Kd.R_newM (M := fun k_ => (P4_ k_ ∨ w.heap.size ≤ k_)) ho15 (by first | exact HK.out.1 | exact (show Kept w _ (fun k_ => P4_ k_) from by repeat (first | (with_reducible first | exact HK.out | apply Kept.alloc | apply Kept.drewN | apply Kept.drew | refine Kept.setCell ?_ (.inr GW267.out) _) | exact HK.out)).1) (fun k_ h_ => .inr h_)) (Kd.R_lt (by (with_reducible repeat (first | apply Kd.R_alloc | apply Kd.R_drewN | apply Kd.R_drew)); exact HO4.out))) (below_size (by repeat (first | (with_reducible first | exact HB.out | apply below_alloc | apply pw_below_drewN | apply below_drew1 | refine below_set ?_ GE267.out) | exact HB.out)))); have n2_ := Aside0.mk (blk_below (g := gb267) (o := .cells #[.int .i64 a0_0, .slice A0_1 l0_1.length c0_1] 28 (0, 0)) (by (with_reducible repeat (first | refine blk_drewN ?_ _ | refine blk_drew ?_ | refine blk_alloc ?_ _)); exact BK267.out) hb); have n3_ := Aside0.mk (Kept.below (S := (fun k_ => P4_ k_)) (by repeat (first | (with_reducible first | exact HK.out | apply Kept.alloc | apply Kept.drewN | apply Kept.drew | refine Kept.setCell ?_ (.inr GW267.out) _) | exact HK.out)) hb); have n4_ := Aside0.mk (below_step (by repeat (first | (with_reducible first | exact HB.out | apply below_alloc | apply pw_below_drewN | apply below_drew1 | refine below_set ?_ GE267.out) | exact HB.out)) hb); clear HO4; clear BK267; clear HK; clear HB; have HO4 := n0_; have HO270 := n1_; have BK267 := n2_; have HK := n3_; have HB := n4_; clear n0_ n1_ n2_ n3_ n4_; clear hb ho15; have hcz16_0 : w14.cell? ⟨gb267, 0, none⟩ = some (.int .i64 a0_0) := (blk_cell BK267.out 0).trans rfl; have hcz16_1 : w14.cell? ⟨gb267, 1, none⟩ = some (.slice A0_1 l0_1.length c0_1) := (blk_cell BK267.out 1).trans rfl; have hfz16_0 := blk_frozen BK267.out 0; have hfz16_1 := blk_frozen BK267.out 1) | ((with_reducible refine gate_callee (f := 33) rfl ?_); refine goesA_ (some 18) rfl rfl Tryd.func33 (by kernel_rfl) rfl #[.agg #[.int .i64 a0_0, .slice A0_1 l0_1.length c0_1], .int .i64 a1, .int .i64 a2] rfl ?_; (with_reducible refine (spec_l10Over.calls k a0_0 _ _ l0_1 a1 a2 t271 _ ?side1 ?side2 A6.out).mono ?_); (case side1 => exact Kd.C_kept_now HR0_1.out (by repeat (first | (with_reducible first | exact HK.out | apply Kept.alloc | apply Kept.drewN | apply Kept.drew | refine Kept.setCell ?_ (.inr GW267.out) _) | exact HK.out))); (case side2 => exact HC0_1.out); rintro e w17 ⟨rfl, hb⟩; refine ⟨_, rfl, ?_⟩; have n0_ := Aside0.mk (Kd.R_below (by (with_reducible repeat (first | apply Kd.R_alloc | apply Kd.R_drewN | apply Kd.R_drew)); exact HO4.out) hb); have n1_ := Aside0.mk (Kd.R_below (by (with_reducible repeat (first | apply Kd.R_alloc | apply Kd.R_drewN | apply Kd.R_drew)); exact HO270.out) hb); have n2_ := Aside0.mk (blk_below (g := gb267) (o := .cells #[.int .i64 a0_0, .slice A0_1 l0_1.length c0_1] 28 (0, 0)) (by (with_reducible repeat (first | refine blk_drewN ?_ _ | refine blk_drew ?_ | refine blk_alloc ?_ _)); exact BK267.out) hb); have n3_ := Aside0.mk (Kept.below (S := (fun k_ => P4_ k_)) (by repeat (first | (with_reducible first | exact HK.out | apply Kept.alloc | apply Kept.drewN | apply Kept.drew | refine Kept.setCell ?_ (.inr GW267.out) _) | exact HK.out)) hb); have n4_ := Aside0.mk (below_step (by repeat (first | (with_reducible first | exact HB.out | apply below_alloc | apply pw_below_drewN | apply below_drew1 | refine below_set ?_ GE267.out) | exact HB.out)) hb); clear HO4; clear HO270; clear BK267; clear HK; clear HB; have HO4 := n0_; have HO270 := n1_; have BK267 := n2_; have HK := n3_; have HB := n4_; clear n0_ n1_ n2_ n3_ n4_; (try clear hb); (try clear hb2); (try clear hk); (try clear hi)))
  go_loopg [11, 12] k (fun kq v11 v12 w' => ∃ (x4_1 : List Int) (x11_1 : List Int) (x12_1 : Int), v12 = .int .i64 x12_1 ∧ Aside0 (spec_l10Moves.l0 kq a1 a2 a3 x4_1 x11_1 x12_1 a0_0 l0_1 = some (r1, r2)) ∧ Aside0 (kq ≤ k) ∧ Aside0 (Kd.R (Kd.int .i64) 2 w' w0.heap.size (fun k_ => (P4_ k_ ∨ w.heap.size ≤ k_) ∧ some k_ ≠ (v11 : Value).ownBlock) u9000_ x4_1) ∧ Aside0 (Kd.R (Kd.int .i64) 2 w' w0.heap.size (fun k_ => (P4_ k_ ∨ w.heap.size ≤ k_) ∧ some k_ ≠ (u9000_ : Value).ownBlock) v11 x11_1) ∧ Aside0 (w'.heap[gb267]? = some (.cells #[.int .i64 a0_0, (.slice A0_1 l0_1.length c0_1)] 28 (0, 0))) ∧ Aside0 (Kept w w' (fun k_ => P4_ k_)) ∧ Aside0 (Below w0.heap.size w0 w'))
  case atStart => exact ⟨(l4), (y268), (0), (by first | rfl | (simp; done) | (simp [*]; done)), H', ⟨Nat.le_refl _⟩, ⟨by (with_reducible repeat (first | apply Kd.R_alloc | apply Kd.R_drewN | apply Kd.R_drew)); exact HO4.out⟩, ⟨by (with_reducible repeat (first | apply Kd.R_alloc | apply Kd.R_drewN | apply Kd.R_drew)); exact Kd.R_mono HO270.out (fun _ hk => ⟨hk.1.1, hk.2⟩)⟩, ⟨by (with_reducible repeat (first | refine blk_drewN ?_ _ | refine blk_drew ?_ | refine blk_alloc ?_ _)); exact BK267.out⟩, ⟨by repeat (first | (with_reducible first | exact HK.out | apply Kept.alloc | apply Kept.drewN | apply Kept.drew | refine Kept.setCell ?_ (.inr GW267.out) _) | exact HK.out)⟩, ⟨by repeat (first | (with_reducible first | exact HB.out | apply below_alloc | apply pw_below_drewN | apply below_drew1 | refine below_set ?_ GE267.out) | exact HB.out)⟩⟩
  case round =>
   clear H'
   (try clear p2); (try clear c3); (try clear c4); (try clear c7); (try clear c7b0); (try clear hcz11_0); (try clear hcz11_1); (try clear hcz16_0); (try clear hcz16_1); (try clear hfz11_0); (try clear hfz11_1); (try clear hfz16_0); (try clear hfz16_1)
   obtain ⟨x4_1, x11_1, x12_1, rfl, HA, HK1, HO_4, HO_11, BK267, HK, HB⟩ := hrel
   cases gk with
   | zero => exact absurd HA.out (by simp [spec_l10Moves.l0])
   | succ k1 =>
    have H := HA.out
    clear HA
    simp only [spec_l10Moves.l0] at H
    by_cases c18 : x12_1 < (l0_1.length : Int)
    ·rw [if_pos c18] at H
     have c18b0 : decide (x12_1 < (l0_1.length : Int)) = true := decide_eq_true c18
     clear c18
     obtain ⟨ji19, hji19⟩ : ∃ j_ : Int, (IntKind.u64.wrap (x12_1)) = j_ := ⟨_, rfl⟩
     replace H : (if 0 ≤ (ji19) then (if (Go.bits .and .i64 (shr .i64 (Go.bits .or .i64 a1 a2) (ji19)) 1) = 1 then (spec_l10Moves.l0 k1 a1 a2 a3 x4_1 x11_1 (wrap64 (x12_1 + 1)) a0_0 l0_1) else (if a3 = 1 then ((spec_l10Winner.f k1 a0_0 l0_1 (Go.bits .or .i64 a1 (shl .i64 1 (ji19))) a2 2 x4_1).bind fun bt272 => (if bt272.1 = a3 then (if x11_1.length < 17592186044416 then (spec_l10Moves.l0 k1 a1 a2 a3 bt272.2 (x11_1 ++ [x12_1]) (wrap64 (x12_1 + 1)) a0_0 l0_1) else (none)) else (spec_l10Moves.l0 k1 a1 a2 a3 bt272.2 x11_1 (wrap64 (x12_1 + 1)) a0_0 l0_1))) else ((spec_l10Winner.f k1 a0_0 l0_1 a1 (Go.bits .or .i64 a2 (shl .i64 1 (ji19))) 1 x4_1).bind fun bt277 => (if bt277.1 = a3 then (if x11_1.length < 17592186044416 then (spec_l10Moves.l0 k1 a1 a2 a3 bt277.2 (x11_1 ++ [x12_1]) (wrap64 (x12_1 + 1)) a0_0 l0_1) else (none)) else (spec_l10Moves.l0 k1 a1 a2 a3 bt277.2 x11_1 (wrap64 (x12_1 + 1)) a0_0 l0_1))))) else (none)) = some (r1, r2) := by first | (rw [hji19] at H; exact H) | (simp only [hji19] at H ⊢; exact H)
     by_cases c20 : 0 ≤ (ji19)
     ·rw [if_pos c20] at H
      have c20b0 := eq_true c20
      have c20b1 : decide (0 ≤ (ji19)) = true := decide_eq_true c20
      clear c20
      obtain ⟨ji21, hji21⟩ : ∃ j_ : Int, (shr .i64 (Go.bits .or .i64 a1 a2) (ji19)) = j_ := ⟨_, rfl⟩
      replace H : (if (Go.bits .and .i64 (ji21) 1) = 1 then (spec_l10Moves.l0 k1 a1 a2 a3 x4_1 x11_1 (wrap64 (x12_1 + 1)) a0_0 l0_1) else (if a3 = 1 then ((spec_l10Winner.f k1 a0_0 l0_1 (Go.bits .or .i64 a1 (shl .i64 1 (ji19))) a2 2 x4_1).bind fun bt272 => (if bt272.1 = a3 then (if x11_1.length < 17592186044416 then (spec_l10Moves.l0 k1 a1 a2 a3 bt272.2 (x11_1 ++ [x12_1]) (wrap64 (x12_1 + 1)) a0_0 l0_1) else (none)) else (spec_l10Moves.l0 k1 a1 a2 a3 bt272.2 x11_1 (wrap64 (x12_1 + 1)) a0_0 l0_1))) else ((spec_l10Winner.f k1 a0_0 l0_1 a1 (Go.bits .or .i64 a2 (shl .i64 1 (ji19))) 1 x4_1).bind fun bt277 => (if bt277.1 = a3 then (if x11_1.length < 17592186044416 then (spec_l10Moves.l0 k1 a1 a2 a3 bt277.2 (x11_1 ++ [x12_1]) (wrap64 (x12_1 + 1)) a0_0 l0_1) else (none)) else (spec_l10Moves.l0 k1 a1 a2 a3 bt277.2 x11_1 (wrap64 (x12_1 + 1)) a0_0 l0_1))))) = some (r1, r2) := by first | (rw [hji21] at H; exact H) | (simp only [hji21] at H ⊢; exact H)
      have hji21_ : ((Go.bits .or .i64 a1 a2) / 2 ^ min (ji19).toNat 64) = ji21 := hji21
      have hji21z : (ji19) ≤ 64 → ((Go.bits .or .i64 a1 a2) / 2 ^ (ji19).toNat) = ji21 := shr_small hji21
      by_cases c22 : (Go.bits .and .i64 (ji21) 1) = 1
      ·rw [if_pos c22] at H
       have c22b0 : ((Go.bits .and .i64 (ji21) 1) == 1) = true := beq_iff_eq.mpr c22
       have c22b1 : ((Go.bits .and .i64 (ji21) 1) != 1) = false := bne_eq_false_iff_eq.mpr c22
       clear c22
       have H' := Aside0.mk H
       clear H
       have hcz23_0 : wr.cell? ⟨gb267, 0, none⟩ = some (.int .i64 a0_0) := (blk_cell BK267.out 0).trans rfl
       have hcz23_1 : wr.cell? ⟨gb267, 1, none⟩ = some (.slice A0_1 l0_1.length c0_1) := (blk_cell BK267.out 1).trans rfl
       have hfz23_0 := blk_frozen BK267.out 0
       have hfz23_1 := blk_frozen BK267.out 1
       go_wp2
       go_roundg k1
       case measure => have := HK1.out; omega
       case rel => exact ⟨(x4_1), (x11_1), (wrap64 (x12_1 + 1)), (by first | rfl | (simp; done) | (simp [*]; done)), H', ⟨by have := HK1.out; omega⟩, ⟨by (with_reducible repeat (first | apply Kd.R_alloc | apply Kd.R_drewN | apply Kd.R_drew)); exact HO_4.out⟩, ⟨by (with_reducible repeat (first | apply Kd.R_alloc | apply Kd.R_drewN | apply Kd.R_drew)); exact HO_11.out⟩, ⟨by (with_reducible repeat (first | refine blk_drewN ?_ _ | refine blk_drew ?_ | refine blk_alloc ?_ _)); exact BK267.out⟩, ⟨by repeat (first | (with_reducible first | exact HK.out | apply Kept.alloc | apply Kept.drewN | apply Kept.drew | refine Kept.setCell ?_ (.inr GW267.out) _) | exact HK.out)⟩, ⟨by repeat (first | (with_reducible first | exact HB.out | apply below_alloc | apply pw_below_drewN | apply below_drew1 | refine below_set ?_ GE267.out) | exact HB.out)⟩⟩
      ·rw [if_neg c22] at H
       have c22b0 : ((Go.bits .and .i64 (ji21) 1) == 1) = false := beq_eq_false_iff_ne.mpr c22
       have c22b1 : ((Go.bits .and .i64 (ji21) 1) != 1) = true := bne_iff_ne.mpr c22
       by_cases c24 : a3 = 1
       ·rw [if_pos c24] at H
        have c24b0 : (a3 == 1) = true := beq_iff_eq.mpr c24
        have c24b1 : (a3 != 1) = false := bne_eq_false_iff_eq.mpr c24
        clear c24
        have c25b0 := eq_true (oda : 0 ≤ (ji19))
        obtain ⟨ji26, hji26⟩ : ∃ j_ : Int, (shl .i64 1 (ji19)) = j_ := ⟨_, rfl⟩
        replace H : ((spec_l10Winner.f k1 a0_0 l0_1 (Go.bits .or .i64 a1 (ji26)) a2 2 x4_1).bind fun bt272 => (if bt272.1 = a3 then (if x11_1.length < 17592186044416 then (spec_l10Moves.l0 k1 a1 a2 a3 bt272.2 (x11_1 ++ [x12_1]) (wrap64 (x12_1 + 1)) a0_0 l0_1) else (none)) else (spec_l10Moves.l0 k1 a1 a2 a3 bt272.2 x11_1 (wrap64 (x12_1 + 1)) a0_0 l0_1))) = some (r1, r2) := by first | (rw [hji26] at H; exact H) | (simp only [hji26] at H ⊢; exact H)
        have hji26_ : (IntKind.i64.wrap (1 * 2 ^ min (ji19).toNat 64)) = ji26 := hji26
        have hji26z : (ji19) ≤ 64 → (IntKind.i64.wrap (1 * 2 ^ (ji19).toNat)) = ji26 := shl_small hji26
        have hji26u : (IntKind.i64.wrap (2 ^ min (ji19).toNat 64)) = ji26 := by have h_ := hji26_; rw [Int.one_mul] at h_; exact h_
        have hji26v : (ji19) ≤ 64 → (IntKind.i64.wrap (2 ^ (ji19).toNat)) = ji26 := fun hle_ => by have h_ := hji26z hle_; rw [Int.one_mul] at h_; exact h_
        have hji26y : (wrap64 (1 * 2 ^ min (ji19).toNat 64)) = ji26 := (i64_w _).symm.trans hji26_
        have hji26x : (ji19) ≤ 64 → (wrap64 (1 * 2 ^ (ji19).toNat)) = ji26 := fun h_ => (i64_w _).symm.trans (hji26z h_)
        replace H := Option.bind_eq_some_iff.mp H
        obtain ⟨⟨t272, t273⟩, A270, H⟩ := H
        replace H : (if t272 = a3 then (if x11_1.length < 17592186044416 then (spec_l10Moves.l0 k1 a1 a2 a3 t273 (x11_1 ++ [x12_1]) (wrap64 (x12_1 + 1)) a0_0 l0_1) else (none)) else (spec_l10Moves.l0 k1 a1 a2 a3 t273 x11_1 (wrap64 (x12_1 + 1)) a0_0 l0_1)) = some (r1, r2) := H
        have A27 := Aside0.mk A270
        clear A270
        by_cases c28 : t272 = a3
        ·rw [if_pos c28] at H
         have c28b0 : (t272 == a3) = true := beq_iff_eq.mpr c28
         have c28b1 : (t272 != a3) = false := bne_eq_false_iff_eq.mpr c28
         clear c28
         by_cases c29 : x11_1.length < 17592186044416
         ·rw [if_pos c29] at H
          have LMc29 := Aside0.mk c29
          clear c29
          obtain ⟨y274, hy274⟩ : ∃ y_ : List Int, y_ = (x11_1 ++ [x12_1]) := ⟨_, rfl⟩
          replace H : (spec_l10Moves.l0 k1 a1 a2 a3 t273 y274 (wrap64 (x12_1 + 1)) a0_0 l0_1) = some (r1, r2) := by first | (rw [hy274]; with_reducible exact H) | (have H2_ := (Option.bind_some _ _).symm.trans H; rw [hy274]; with_reducible exact H2_) | (have H2_ := (Option.bind_some _ _).symm.trans H; with_reducible exact H2_) | with_reducible exact H | (rw [hy274]; exact H) | exact H
          have Ny274 := Aside0.mk hy274
          clear hy274
          have H' := Aside0.mk H
          clear H
          have hcz30_0 : wr.cell? ⟨gb267, 0, none⟩ = some (.int .i64 a0_0) := (blk_cell BK267.out 0).trans rfl
          have hcz30_1 : wr.cell? ⟨gb267, 1, none⟩ = some (.slice A0_1 l0_1.length c0_1) := (blk_cell BK267.out 1).trans rfl
          have hfz30_0 := blk_frozen BK267.out 0
          have hfz30_1 := blk_frozen BK267.out 1
          obtain ⟨Ao31, co31, eo31⟩ := Kd.R_slice HO_4.out
          subst eo31
          go_wp2_with (first | ((with_reducible refine gate_callee (f := 38) rfl ?_); refine goesL_ (some 46) rfl rfl Tryd.func38 (by kernel_rfl) rfl #[.agg #[.int .i64 a0_0, .slice A0_1 l0_1.length c0_1], .int .i64 (Go.bits .or .i64 a1 (ji26)), .int .i64 a2, .int .i64 2, .slice Ao31 x4_1.length co31] rfl (by (try simp only [List.map_toArray, List.map_cons, List.map_nil]); first | done | (simp only [hji26]; rfl) | rfl | (simp only [List.length_drop, List.length_take]; rfl)) ?_; (with_reducible refine (spec_l10Winner.calls k1 a0_0 _ _ l0_1 (Go.bits .or .i64 a1 (ji26)) a2 2 (fun k_ => some k_ = (.slice Ao31 x4_1.length co31 : Value).ownBlock) (.slice Ao31 x4_1.length co31) x4_1 t272 t273 w0 _ ?side1 ?side2 ?side3 ?side4 A27.out).mono ?_); (case side1 => repeat (first | (with_reducible first | exact HB.out | apply below_alloc | apply pw_below_drewN | apply below_drew1 | refine below_set ?_ GE267.out) | exact HB.out)); (case side2 => exact Kd.C_kept_call HR0_1.out (by repeat (first | (with_reducible first | exact HK.out | apply Kept.alloc | apply Kept.drewN | apply Kept.drew | refine Kept.setCell ?_ (.inr GW267.out) _) | exact HK.out)) (fun k_ hs_ => (fun e_ => (HO_4.out.1 k_ e_.symm).1) hs_)); (case side3 => exact HC0_1.out); (case side4 => exact Kd.R_tight rfl HO_4.out); rintro e w32 ⟨rfl, hy0, hb, hkp⟩; refine ⟨_, rfl, ?_⟩; have n0_ := Aside0.mk (Kd.R_reok rfl hy0 (fun k_ e_ => HO_4.out.1 k_ e_)); have n1_ := Aside0.mk (Kd.R_mono (ok' := fun k_ => (P4_ k_ ∨ w.heap.size ≤ k_) ∧ some k_ ≠ (.slice Ao31 x4_1.length co31 : Value).ownBlock) (Kd.R_keptB (HO_11.out) hkp (fun k_ hk_ hs_ => (hk_.2) hs_)) (fun k_ hk_ => ⟨hk_.1.1, hk_.1.2⟩)); have n2_ := Aside0.mk (blk_kept (by (with_reducible repeat (first | refine blk_drewN ?_ _ | refine blk_drew ?_ | refine blk_alloc ?_ _)); exact BK267.out) hkp (fun hs_ => (fun e_ => (Kd.R_ne HO_4.out BK267.out (by decide)) e_) hs_)); have n3_ := Aside0.mk (Kept.then_ (S := (fun k_ => P4_ k_)) (by repeat (first | (with_reducible first | exact HK.out | apply Kept.alloc | apply Kept.drewN | apply Kept.drew | refine Kept.setCell ?_ (.inr GW267.out) _) | exact HK.out)) hkp (fun k_ hs_ => (fun e_ => (HO_4.out.1 k_ e_.symm).1) hs_)); have n4_ := Aside0.mk (hb); clear HO_4; clear HO_11; clear BK267; clear HK; clear HB; have HO_4 := n0_; have HO_11 := n1_; have BK267 := n2_; have HK := n3_; have HB := n4_; clear n0_ n1_ n2_ n3_ n4_; (try clear hb); (try clear hkp); (try clear hy0)) | ((with_reducible refine gate_builtin (b := .append) (xs := #[.tmp 59, .tmp 61]) rfl ?_); at_builtin; refine Kd.R_append (Kd.int .i64) (w0 := w0) w0.heap.size rfl (.tmp 59) (.tmp 61) 38 2 (.int .i64 0) 8 rfl Tryd.underlying38 info2 rfl (by decide) (by omega) u11 x11_1 x12_1 [.int .i64 x12_1] (fun k_ => (P4_ k_ ∨ w.heap.size ≤ k_) ∧ some k_ ≠ (.slice Ao31 x4_1.length co31 : Value).ownBlock) (fun _ => False) rfl rfl ?aP (fun _ hk => hk.elim) ?aF ?aO ?aB ?aS ?aL ?_; (case aP => exact rfl); (case aB => exact (by repeat (first | (with_reducible first | exact HB.out | apply below_alloc | apply pw_below_drewN | apply below_drew1 | refine below_set ?_ GE267.out) | exact HB.out))); (case aF => exact (fun k_ hk => ⟨(.inr (Nat.le_trans (by first | exact HK.out.1 | exact (show Kept w _ (fun k_ => P4_ k_) from by repeat (first | (with_reducible first | exact HK.out | apply Kept.alloc | apply Kept.drewN | apply Kept.drew | refine Kept.setCell ?_ (.inr GW267.out) _) | exact HK.out)).1) hk)), Kd.fresh' (Kd.R_lt (by (with_reducible repeat (first | apply Kd.R_alloc | apply Kd.R_drewN | apply Kd.R_drew)); exact HO_4.out)) k_ hk⟩)); (case aO => exact (by (with_reducible repeat (first | apply Kd.R_alloc | apply Kd.R_drewN | apply Kd.R_drew)); exact HO_11.out)); (case aS => exact (below_size (by repeat (first | (with_reducible first | exact HB.out | apply below_alloc | apply pw_below_drewN | apply below_drew1 | refine below_set ?_ GE267.out) | exact HB.out)))); (case aL => have := LMc29.out; omega); intro v275 w33 ho hb hg hat; rw [← Ny274.out] at ho; have n0_ := Aside0.mk (Kd.R_after (ok := (fun k_ => (P4_ k_ ∨ w.heap.size ≤ k_))) (by (with_reducible repeat (first | apply Kd.R_alloc | apply Kd.R_drewN | apply Kd.R_drew)); exact HO_4.out) hg hat); have n1_ := Aside0.mk (blk_grown (g := gb267) (o := .cells #[.int .i64 a0_0, .slice A0_1 l0_1.length c0_1] 28 (0, 0)) (by (with_reducible repeat (first | refine blk_drewN ?_ _ | refine blk_drew ?_ | refine blk_alloc ?_ _)); exact BK267.out) hg (Kd.R_ne HO_11.out BK267.out (by decide))); have n2_ := Aside0.mk (hb); have n3_ := Aside0.mk (Kept.of_grown (S := (fun k_ => P4_ k_)) hg (by repeat (first | (with_reducible first | exact HK.out | apply Kept.alloc | apply Kept.drewN | apply Kept.drew | refine Kept.setCell ?_ (.inr GW267.out) _) | exact HK.out)) (fun k_ e_ => (HO_11.out.1 k_ e_).1)); have n4_ := Aside0.mk (ho); clear HO_4; clear BK267; clear HB; clear HK; clear HO_11; have HO_4 := n0_; have BK267 := n1_; have HB := n2_; have HK := n3_; have HO276 := n4_; clear n0_ n1_ n2_ n3_ n4_; clear ho hb hg hat))
          go_roundg k1
          case measure => have := HK1.out; omega
          case rel => exact ⟨(t273), (y274), (wrap64 (x12_1 + 1)), (by first | rfl | (simp; done) | (simp [*]; done)), H', ⟨by have := HK1.out; omega⟩, ⟨by (with_reducible repeat (first | apply Kd.R_alloc | apply Kd.R_drewN | apply Kd.R_drew)); exact HO_4.out⟩, ⟨by (with_reducible repeat (first | apply Kd.R_alloc | apply Kd.R_drewN | apply Kd.R_drew)); exact HO276.out⟩, ⟨by (with_reducible repeat (first | refine blk_drewN ?_ _ | refine blk_drew ?_ | refine blk_alloc ?_ _)); exact BK267.out⟩, ⟨by repeat (first | (with_reducible first | exact HK.out | apply Kept.alloc | apply Kept.drewN | apply Kept.drew | refine Kept.setCell ?_ (.inr GW267.out) _) | exact HK.out)⟩, ⟨by repeat (first | (with_reducible first | exact HB.out | apply below_alloc | apply pw_below_drewN | apply below_drew1 | refine below_set ?_ GE267.out) | exact HB.out)⟩⟩
         ·rw [if_neg c29] at H
          exact absurd H (by simp)
        ·rw [if_neg c28] at H
         have c28b0 : (t272 == a3) = false := beq_eq_false_iff_ne.mpr c28
         have c28b1 : (t272 != a3) = true := bne_iff_ne.mpr c28
         have H' := Aside0.mk H
         clear H
         have hcz34_0 : wr.cell? ⟨gb267, 0, none⟩ = some (.int .i64 a0_0) := (blk_cell BK267.out 0).trans rfl
         have hcz34_1 : wr.cell? ⟨gb267, 1, none⟩ = some (.slice A0_1 l0_1.length c0_1) := (blk_cell BK267.out 1).trans rfl
         have hfz34_0 := blk_frozen BK267.out 0
         have hfz34_1 := blk_frozen BK267.out 1
         obtain ⟨Ao35, co35, eo35⟩ := Kd.R_slice HO_4.out
         subst eo35
         go_wp2_with (first | ((with_reducible refine gate_callee (f := 38) rfl ?_); refine goesL_ (some 46) rfl rfl Tryd.func38 (by kernel_rfl) rfl #[.agg #[.int .i64 a0_0, .slice A0_1 l0_1.length c0_1], .int .i64 (Go.bits .or .i64 a1 (ji26)), .int .i64 a2, .int .i64 2, .slice Ao35 x4_1.length co35] rfl (by (try simp only [List.map_toArray, List.map_cons, List.map_nil]); first | done | (simp only [hji26]; rfl) | rfl | (simp only [List.length_drop, List.length_take]; rfl)) ?_; (with_reducible refine (spec_l10Winner.calls k1 a0_0 _ _ l0_1 (Go.bits .or .i64 a1 (ji26)) a2 2 (fun k_ => some k_ = (.slice Ao35 x4_1.length co35 : Value).ownBlock) (.slice Ao35 x4_1.length co35) x4_1 t272 t273 w0 _ ?side1 ?side2 ?side3 ?side4 A27.out).mono ?_); (case side1 => repeat (first | (with_reducible first | exact HB.out | apply below_alloc | apply pw_below_drewN | apply below_drew1 | refine below_set ?_ GE267.out) | exact HB.out)); (case side2 => exact Kd.C_kept_call HR0_1.out (by repeat (first | (with_reducible first | exact HK.out | apply Kept.alloc | apply Kept.drewN | apply Kept.drew | refine Kept.setCell ?_ (.inr GW267.out) _) | exact HK.out)) (fun k_ hs_ => (fun e_ => (HO_4.out.1 k_ e_.symm).1) hs_)); (case side3 => exact HC0_1.out); (case side4 => exact Kd.R_tight rfl HO_4.out); rintro e w36 ⟨rfl, hy0, hb, hkp⟩; refine ⟨_, rfl, ?_⟩; have n0_ := Aside0.mk (Kd.R_reok rfl hy0 (fun k_ e_ => HO_4.out.1 k_ e_)); have n1_ := Aside0.mk (Kd.R_mono (ok' := fun k_ => (P4_ k_ ∨ w.heap.size ≤ k_) ∧ some k_ ≠ (.slice Ao35 x4_1.length co35 : Value).ownBlock) (Kd.R_keptB (HO_11.out) hkp (fun k_ hk_ hs_ => (hk_.2) hs_)) (fun k_ hk_ => ⟨hk_.1.1, hk_.1.2⟩)); have n2_ := Aside0.mk (blk_kept (by (with_reducible repeat (first | refine blk_drewN ?_ _ | refine blk_drew ?_ | refine blk_alloc ?_ _)); exact BK267.out) hkp (fun hs_ => (fun e_ => (Kd.R_ne HO_4.out BK267.out (by decide)) e_) hs_)); have n3_ := Aside0.mk (Kept.then_ (S := (fun k_ => P4_ k_)) (by repeat (first | (with_reducible first | exact HK.out | apply Kept.alloc | apply Kept.drewN | apply Kept.drew | refine Kept.setCell ?_ (.inr GW267.out) _) | exact HK.out)) hkp (fun k_ hs_ => (fun e_ => (HO_4.out.1 k_ e_.symm).1) hs_)); have n4_ := Aside0.mk (hb); clear HO_4; clear HO_11; clear BK267; clear HK; clear HB; have HO_4 := n0_; have HO_11 := n1_; have BK267 := n2_; have HK := n3_; have HB := n4_; clear n0_ n1_ n2_ n3_ n4_; (try clear hb); (try clear hkp); (try clear hy0)))
         go_roundg k1
         case measure => have := HK1.out; omega
         case rel => exact ⟨(t273), (x11_1), (wrap64 (x12_1 + 1)), (by first | rfl | (simp; done) | (simp [*]; done)), H', ⟨by have := HK1.out; omega⟩, ⟨by (with_reducible repeat (first | apply Kd.R_alloc | apply Kd.R_drewN | apply Kd.R_drew)); exact HO_4.out⟩, ⟨by (with_reducible repeat (first | apply Kd.R_alloc | apply Kd.R_drewN | apply Kd.R_drew)); exact HO_11.out⟩, ⟨by (with_reducible repeat (first | refine blk_drewN ?_ _ | refine blk_drew ?_ | refine blk_alloc ?_ _)); exact BK267.out⟩, ⟨by repeat (first | (with_reducible first | exact HK.out | apply Kept.alloc | apply Kept.drewN | apply Kept.drew | refine Kept.setCell ?_ (.inr GW267.out) _) | exact HK.out)⟩, ⟨by repeat (first | (with_reducible first | exact HB.out | apply below_alloc | apply pw_below_drewN | apply below_drew1 | refine below_set ?_ GE267.out) | exact HB.out)⟩⟩
       ·rw [if_neg c24] at H
        have c24b0 : (a3 == 1) = false := beq_eq_false_iff_ne.mpr c24
        have c24b1 : (a3 != 1) = true := bne_iff_ne.mpr c24
        have c37b0 := eq_true (oda : 0 ≤ (ji19))
        obtain ⟨ji38, hji38⟩ : ∃ j_ : Int, (shl .i64 1 (ji19)) = j_ := ⟨_, rfl⟩
        replace H : ((spec_l10Winner.f k1 a0_0 l0_1 a1 (Go.bits .or .i64 a2 (ji38)) 1 x4_1).bind fun bt277 => (if bt277.1 = a3 then (if x11_1.length < 17592186044416 then (spec_l10Moves.l0 k1 a1 a2 a3 bt277.2 (x11_1 ++ [x12_1]) (wrap64 (x12_1 + 1)) a0_0 l0_1) else (none)) else (spec_l10Moves.l0 k1 a1 a2 a3 bt277.2 x11_1 (wrap64 (x12_1 + 1)) a0_0 l0_1))) = some (r1, r2) := by first | (rw [hji38] at H; exact H) | (simp only [hji38] at H ⊢; exact H)
        have hji38_ : (IntKind.i64.wrap (1 * 2 ^ min (ji19).toNat 64)) = ji38 := hji38
        have hji38z : (ji19) ≤ 64 → (IntKind.i64.wrap (1 * 2 ^ (ji19).toNat)) = ji38 := shl_small hji38
        have hji38u : (IntKind.i64.wrap (2 ^ min (ji19).toNat 64)) = ji38 := by have h_ := hji38_; rw [Int.one_mul] at h_; exact h_
        have hji38v : (ji19) ≤ 64 → (IntKind.i64.wrap (2 ^ (ji19).toNat)) = ji38 := fun hle_ => by have h_ := hji38z hle_; rw [Int.one_mul] at h_; exact h_
        have hji38y : (wrap64 (1 * 2 ^ min (ji19).toNat 64)) = ji38 := (i64_w _).symm.trans hji38_
        have hji38x : (ji19) ≤ 64 → (wrap64 (1 * 2 ^ (ji19).toNat)) = ji38 := fun h_ => (i64_w _).symm.trans (hji38z h_)
        replace H := Option.bind_eq_some_iff.mp H
        obtain ⟨⟨t277, t278⟩, A390, H⟩ := H
        replace H : (if t277 = a3 then (if x11_1.length < 17592186044416 then (spec_l10Moves.l0 k1 a1 a2 a3 t278 (x11_1 ++ [x12_1]) (wrap64 (x12_1 + 1)) a0_0 l0_1) else (none)) else (spec_l10Moves.l0 k1 a1 a2 a3 t278 x11_1 (wrap64 (x12_1 + 1)) a0_0 l0_1)) = some (r1, r2) := H
        have A39 := Aside0.mk A390
        clear A390
        by_cases c40 : t277 = a3
        ·rw [if_pos c40] at H
         have c40b0 : (t277 == a3) = true := beq_iff_eq.mpr c40
         have c40b1 : (t277 != a3) = false := bne_eq_false_iff_eq.mpr c40
         clear c40
         by_cases c41 : x11_1.length < 17592186044416
         ·rw [if_pos c41] at H
          have LMc41 := Aside0.mk c41
          clear c41
          obtain ⟨y279, hy279⟩ : ∃ y_ : List Int, y_ = (x11_1 ++ [x12_1]) := ⟨_, rfl⟩
          replace H : (spec_l10Moves.l0 k1 a1 a2 a3 t278 y279 (wrap64 (x12_1 + 1)) a0_0 l0_1) = some (r1, r2) := by first | (rw [hy279]; with_reducible exact H) | (have H2_ := (Option.bind_some _ _).symm.trans H; rw [hy279]; with_reducible exact H2_) | (have H2_ := (Option.bind_some _ _).symm.trans H; with_reducible exact H2_) | with_reducible exact H | (rw [hy279]; exact H) | exact H
          have Ny279 := Aside0.mk hy279
          clear hy279
          have H' := Aside0.mk H
          clear H
          have hcz42_0 : wr.cell? ⟨gb267, 0, none⟩ = some (.int .i64 a0_0) := (blk_cell BK267.out 0).trans rfl
          have hcz42_1 : wr.cell? ⟨gb267, 1, none⟩ = some (.slice A0_1 l0_1.length c0_1) := (blk_cell BK267.out 1).trans rfl
          have hfz42_0 := blk_frozen BK267.out 0
          have hfz42_1 := blk_frozen BK267.out 1
          obtain ⟨Ao43, co43, eo43⟩ := Kd.R_slice HO_4.out
          subst eo43
          go_wp2_with (first | ((with_reducible refine gate_callee (f := 38) rfl ?_); refine goesL_ (some 55) rfl rfl Tryd.func38 (by kernel_rfl) rfl #[.agg #[.int .i64 a0_0, .slice A0_1 l0_1.length c0_1], .int .i64 a1, .int .i64 (Go.bits .or .i64 a2 (ji38)), .int .i64 1, .slice Ao43 x4_1.length co43] rfl (by (try simp only [List.map_toArray, List.map_cons, List.map_nil]); first | done | (simp only [hji38]; rfl) | rfl | (simp only [List.length_drop, List.length_take]; rfl)) ?_; (with_reducible refine (spec_l10Winner.calls k1 a0_0 _ _ l0_1 a1 (Go.bits .or .i64 a2 (ji38)) 1 (fun k_ => some k_ = (.slice Ao43 x4_1.length co43 : Value).ownBlock) (.slice Ao43 x4_1.length co43) x4_1 t277 t278 w0 _ ?side1 ?side2 ?side3 ?side4 A39.out).mono ?_); (case side1 => repeat (first | (with_reducible first | exact HB.out | apply below_alloc | apply pw_below_drewN | apply below_drew1 | refine below_set ?_ GE267.out) | exact HB.out)); (case side2 => exact Kd.C_kept_call HR0_1.out (by repeat (first | (with_reducible first | exact HK.out | apply Kept.alloc | apply Kept.drewN | apply Kept.drew | refine Kept.setCell ?_ (.inr GW267.out) _) | exact HK.out)) (fun k_ hs_ => (fun e_ => (HO_4.out.1 k_ e_.symm).1) hs_)); (case side3 => exact HC0_1.out); (case side4 => exact Kd.R_tight rfl HO_4.out); rintro e w44 ⟨rfl, hy0, hb, hkp⟩; refine ⟨_, rfl, ?_⟩; have n0_ := Aside0.mk (Kd.R_reok rfl hy0 (fun k_ e_ => HO_4.out.1 k_ e_)); have n1_ := Aside0.mk (Kd.R_mono (ok' := fun k_ => (P4_ k_ ∨ w.heap.size ≤ k_) ∧ some k_ ≠ (.slice Ao43 x4_1.length co43 : Value).ownBlock) (Kd.R_keptB (HO_11.out) hkp (fun k_ hk_ hs_ => (hk_.2) hs_)) (fun k_ hk_ => ⟨hk_.1.1, hk_.1.2⟩)); have n2_ := Aside0.mk (blk_kept (by (with_reducible repeat (first | refine blk_drewN ?_ _ | refine blk_drew ?_ | refine blk_alloc ?_ _)); exact BK267.out) hkp (fun hs_ => (fun e_ => (Kd.R_ne HO_4.out BK267.out (by decide)) e_) hs_)); have n3_ := Aside0.mk (Kept.then_ (S := (fun k_ => P4_ k_)) (by repeat (first | (with_reducible first | exact HK.out | apply Kept.alloc | apply Kept.drewN | apply Kept.drew | refine Kept.setCell ?_ (.inr GW267.out) _) | exact HK.out)) hkp (fun k_ hs_ => (fun e_ => (HO_4.out.1 k_ e_.symm).1) hs_)); have n4_ := Aside0.mk (hb); clear HO_4; clear HO_11; clear BK267; clear HK; clear HB; have HO_4 := n0_; have HO_11 := n1_; have BK267 := n2_; have HK := n3_; have HB := n4_; clear n0_ n1_ n2_ n3_ n4_; (try clear hb); (try clear hkp); (try clear hy0)) | ((with_reducible refine gate_builtin (b := .append) (xs := #[.tmp 59, .tmp 61]) rfl ?_); at_builtin; refine Kd.R_append (Kd.int .i64) (w0 := w0) w0.heap.size rfl (.tmp 59) (.tmp 61) 38 2 (.int .i64 0) 8 rfl Tryd.underlying38 info2 rfl (by decide) (by omega) u11 x11_1 x12_1 [.int .i64 x12_1] (fun k_ => (P4_ k_ ∨ w.heap.size ≤ k_) ∧ some k_ ≠ (.slice Ao43 x4_1.length co43 : Value).ownBlock) (fun _ => False) rfl rfl ?aP (fun _ hk => hk.elim) ?aF ?aO ?aB ?aS ?aL ?_; (case aP => exact rfl); (case aB => exact (by repeat (first | (with_reducible first | exact HB.out | apply below_alloc | apply pw_below_drewN | apply below_drew1 | refine below_set ?_ GE267.out) | exact HB.out))); (case aF => exact (fun k_ hk => ⟨(.inr (Nat.le_trans (by first | exact HK.out.1 | exact (show Kept w _ (fun k_ => P4_ k_) from by repeat (first | (with_reducible first | exact HK.out | apply Kept.alloc | apply Kept.drewN | apply Kept.drew | refine Kept.setCell ?_ (.inr GW267.out) _) | exact HK.out)).1) hk)), Kd.fresh' (Kd.R_lt (by (with_reducible repeat (first | apply Kd.R_alloc | apply Kd.R_drewN | apply Kd.R_drew)); exact HO_4.out)) k_ hk⟩)); (case aO => exact (by (with_reducible repeat (first | apply Kd.R_alloc | apply Kd.R_drewN | apply Kd.R_drew)); exact HO_11.out)); (case aS => exact (below_size (by repeat (first | (with_reducible first | exact HB.out | apply below_alloc | apply pw_below_drewN | apply below_drew1 | refine below_set ?_ GE267.out) | exact HB.out)))); (case aL => have := LMc41.out; omega); intro v280 w45 ho hb hg hat; rw [← Ny279.out] at ho; have n0_ := Aside0.mk (Kd.R_after (ok := (fun k_ => (P4_ k_ ∨ w.heap.size ≤ k_))) (by (with_reducible repeat (first | apply Kd.R_alloc | apply Kd.R_drewN | apply Kd.R_drew)); exact HO_4.out) hg hat); have n1_ := Aside0.mk (blk_grown (g := gb267) (o := .cells #[.int .i64 a0_0, .slice A0_1 l0_1.length c0_1] 28 (0, 0)) (by (with_reducible repeat (first | refine blk_drewN ?_ _ | refine blk_drew ?_ | refine blk_alloc ?_ _)); exact BK267.out) hg (Kd.R_ne HO_11.out BK267.out (by decide))); have n2_ := Aside0.mk (hb); have n3_ := Aside0.mk (Kept.of_grown (S := (fun k_ => P4_ k_)) hg (by repeat (first | (with_reducible first | exact HK.out | apply Kept.alloc | apply Kept.drewN | apply Kept.drew | refine Kept.setCell ?_ (.inr GW267.out) _) | exact HK.out)) (fun k_ e_ => (HO_11.out.1 k_ e_).1)); have n4_ := Aside0.mk (ho); clear HO_4; clear BK267; clear HB; clear HK; clear HO_11; have HO_4 := n0_; have BK267 := n1_; have HB := n2_; have HK := n3_; have HO281 := n4_; clear n0_ n1_ n2_ n3_ n4_; clear ho hb hg hat))
          go_roundg k1
          case measure => have := HK1.out; omega
          case rel => exact ⟨(t278), (y279), (wrap64 (x12_1 + 1)), (by first | rfl | (simp; done) | (simp [*]; done)), H', ⟨by have := HK1.out; omega⟩, ⟨by (with_reducible repeat (first | apply Kd.R_alloc | apply Kd.R_drewN | apply Kd.R_drew)); exact HO_4.out⟩, ⟨by (with_reducible repeat (first | apply Kd.R_alloc | apply Kd.R_drewN | apply Kd.R_drew)); exact HO281.out⟩, ⟨by (with_reducible repeat (first | refine blk_drewN ?_ _ | refine blk_drew ?_ | refine blk_alloc ?_ _)); exact BK267.out⟩, ⟨by repeat (first | (with_reducible first | exact HK.out | apply Kept.alloc | apply Kept.drewN | apply Kept.drew | refine Kept.setCell ?_ (.inr GW267.out) _) | exact HK.out)⟩, ⟨by repeat (first | (with_reducible first | exact HB.out | apply below_alloc | apply pw_below_drewN | apply below_drew1 | refine below_set ?_ GE267.out) | exact HB.out)⟩⟩
         ·rw [if_neg c41] at H
          exact absurd H (by simp)
        ·rw [if_neg c40] at H
         have c40b0 : (t277 == a3) = false := beq_eq_false_iff_ne.mpr c40
         have c40b1 : (t277 != a3) = true := bne_iff_ne.mpr c40
         have H' := Aside0.mk H
         clear H
         have hcz46_0 : wr.cell? ⟨gb267, 0, none⟩ = some (.int .i64 a0_0) := (blk_cell BK267.out 0).trans rfl
         have hcz46_1 : wr.cell? ⟨gb267, 1, none⟩ = some (.slice A0_1 l0_1.length c0_1) := (blk_cell BK267.out 1).trans rfl
         have hfz46_0 := blk_frozen BK267.out 0
         have hfz46_1 := blk_frozen BK267.out 1
         obtain ⟨Ao47, co47, eo47⟩ := Kd.R_slice HO_4.out
         subst eo47
         go_wp2_with (first | ((with_reducible refine gate_callee (f := 38) rfl ?_); refine goesL_ (some 55) rfl rfl Tryd.func38 (by kernel_rfl) rfl #[.agg #[.int .i64 a0_0, .slice A0_1 l0_1.length c0_1], .int .i64 a1, .int .i64 (Go.bits .or .i64 a2 (ji38)), .int .i64 1, .slice Ao47 x4_1.length co47] rfl (by (try simp only [List.map_toArray, List.map_cons, List.map_nil]); first | done | (simp only [hji38]; rfl) | rfl | (simp only [List.length_drop, List.length_take]; rfl)) ?_; (with_reducible refine (spec_l10Winner.calls k1 a0_0 _ _ l0_1 a1 (Go.bits .or .i64 a2 (ji38)) 1 (fun k_ => some k_ = (.slice Ao47 x4_1.length co47 : Value).ownBlock) (.slice Ao47 x4_1.length co47) x4_1 t277 t278 w0 _ ?side1 ?side2 ?side3 ?side4 A39.out).mono ?_); (case side1 => repeat (first | (with_reducible first | exact HB.out | apply below_alloc | apply pw_below_drewN | apply below_drew1 | refine below_set ?_ GE267.out) | exact HB.out)); (case side2 => exact Kd.C_kept_call HR0_1.out (by repeat (first | (with_reducible first | exact HK.out | apply Kept.alloc | apply Kept.drewN | apply Kept.drew | refine Kept.setCell ?_ (.inr GW267.out) _) | exact HK.out)) (fun k_ hs_ => (fun e_ => (HO_4.out.1 k_ e_.symm).1) hs_)); (case side3 => exact HC0_1.out); (case side4 => exact Kd.R_tight rfl HO_4.out); rintro e w48 ⟨rfl, hy0, hb, hkp⟩; refine ⟨_, rfl, ?_⟩; have n0_ := Aside0.mk (Kd.R_reok rfl hy0 (fun k_ e_ => HO_4.out.1 k_ e_)); have n1_ := Aside0.mk (Kd.R_mono (ok' := fun k_ => (P4_ k_ ∨ w.heap.size ≤ k_) ∧ some k_ ≠ (.slice Ao47 x4_1.length co47 : Value).ownBlock) (Kd.R_keptB (HO_11.out) hkp (fun k_ hk_ hs_ => (hk_.2) hs_)) (fun k_ hk_ => ⟨hk_.1.1, hk_.1.2⟩)); have n2_ := Aside0.mk (blk_kept (by (with_reducible repeat (first | refine blk_drewN ?_ _ | refine blk_drew ?_ | refine blk_alloc ?_ _)); exact BK267.out) hkp (fun hs_ => (fun e_ => (Kd.R_ne HO_4.out BK267.out (by decide)) e_) hs_)); have n3_ := Aside0.mk (Kept.then_ (S := (fun k_ => P4_ k_)) (by repeat (first | (with_reducible first | exact HK.out | apply Kept.alloc | apply Kept.drewN | apply Kept.drew | refine Kept.setCell ?_ (.inr GW267.out) _) | exact HK.out)) hkp (fun k_ hs_ => (fun e_ => (HO_4.out.1 k_ e_.symm).1) hs_)); have n4_ := Aside0.mk (hb); clear HO_4; clear HO_11; clear BK267; clear HK; clear HB; have HO_4 := n0_; have HO_11 := n1_; have BK267 := n2_; have HK := n3_; have HB := n4_; clear n0_ n1_ n2_ n3_ n4_; (try clear hb); (try clear hkp); (try clear hy0)))
         go_roundg k1
         case measure => have := HK1.out; omega
         case rel => exact ⟨(t278), (x11_1), (wrap64 (x12_1 + 1)), (by first | rfl | (simp; done) | (simp [*]; done)), H', ⟨by have := HK1.out; omega⟩, ⟨by (with_reducible repeat (first | apply Kd.R_alloc | apply Kd.R_drewN | apply Kd.R_drew)); exact HO_4.out⟩, ⟨by (with_reducible repeat (first | apply Kd.R_alloc | apply Kd.R_drewN | apply Kd.R_drew)); exact HO_11.out⟩, ⟨by (with_reducible repeat (first | refine blk_drewN ?_ _ | refine blk_drew ?_ | refine blk_alloc ?_ _)); exact BK267.out⟩, ⟨by repeat (first | (with_reducible first | exact HK.out | apply Kept.alloc | apply Kept.drewN | apply Kept.drew | refine Kept.setCell ?_ (.inr GW267.out) _) | exact HK.out)⟩, ⟨by repeat (first | (with_reducible first | exact HB.out | apply below_alloc | apply pw_below_drewN | apply below_drew1 | refine below_set ?_ GE267.out) | exact HB.out)⟩⟩
     ·rw [if_neg c20] at H
      exact absurd H (by simp)
    ·rw [if_neg c18] at H
     have c18b0 : decide (x12_1 < (l0_1.length : Int)) = false := decide_eq_false c18
     clear c18
     simp only [Option.some.injEq, Prod.mk.injEq] at H
     obtain ⟨rfl, rfl⟩ := H
     have hcz49_0 : wr.cell? ⟨gb267, 0, none⟩ = some (.int .i64 a0_0) := (blk_cell BK267.out 0).trans rfl
     have hcz49_1 : wr.cell? ⟨gb267, 1, none⟩ = some (.slice A0_1 l0_1.length c0_1) := (blk_cell BK267.out 1).trans rfl
     have hfz49_0 := blk_frozen BK267.out 0
     have hfz49_1 := blk_frozen BK267.out 1
     go_wp2
     go_ret
     exact ⟨_, by first | rfl | (simp [errW_none, errW_some] <;> rfl) | (simp [*, errW_none, errW_some] <;> rfl), by (with_reducible repeat (first | apply Kd.R_alloc | apply Kd.R_drewN | apply Kd.R_drew)); exact HO_11.out, by (with_reducible repeat (first | apply Kd.R_alloc | apply Kd.R_drewN | apply Kd.R_drew)); exact Kd.R_mono HO_4.out (fun _ hk => hk.1), by repeat (first | (with_reducible first | exact HB.out | apply below_alloc | apply pw_below_drewN | apply below_drew1 | refine below_set ?_ GE267.out) | exact HB.out), by repeat (first | (with_reducible first | exact HK.out | apply Kept.alloc | apply Kept.drewN | apply Kept.drew | refine Kept.setCell ?_ (.inr GW267.out) _) | exact HK.out)⟩
/-- What is asked of a function value handed on: at every x of the kind d that q lets by, in every world in which all that lay in w lies unturned, it answers p x and turns nothing that lay. -/
def PredK {α : Type} (P : Program) (g : Nat) (lb : Array Value) (d : Kd α) (q : α → Prop) (p : α → Bool) (w : World) : Prop :=
  ∀ (W : World) (x : α) (v : Value), q x → d.K W x [v] → Below w.heap.size w W → Calls P g (#[v] ++ lb) W fun e w' => e = .returned (.bool (p x)) ∧ Below W.heap.size W w'
theorem PredK.later {α : Type} {P : Program} {g : Nat} {lb : Array Value} {d : Kd α} {q : α → Prop} {p : α → Bool} {w W : World} (h : PredK P g lb d q p w) (hb : Below w.heap.size w W) : PredK P g lb d q p W :=
  fun W' x v hq hK hb' => h W' x v hq hK (hb.trans (hb'.mono hb.size))
/-- One cell of a row that is read. -/
theorem Kd.C_one {α : Type} {d : Kd α} {w : World} {A : Option Addr} {n : Nat} {xs : List α} (h1 : d.sz = 1) (h : d.C w A n xs) (i : Nat) (hi : i < n) (hl : n = xs.length) :
    ∃ ad v, A = some ad ∧ w.cell? (ad.add i) = some v ∧ d.K w (xs[i]'(by omega)) [v] := by
  have hi' : i < xs.length := by omega
  obtain ⟨ad, c, hA, hc, hK, hcell⟩ := Kd.C_get h (xs[i]'hi') (i : Int) (by omega) (by omega)
  rw [h1] at hc
  match c, hc with
  | [v], _ =>
    refine ⟨ad, v, hA, ?_, ?_⟩
    · have := hcell 0 v rfl
      rw [h1] at this
      simpa using this
    · have e : xs.getD (i : Int).toNat (xs[i]'hi') = xs[i]'hi' := by simp [List.getD_eq_getElem?_getD, List.getElem?_eq_getElem hi']
      rwa [e] at hK
/-- The place of the first hit from i on, or -1. -/
def idxK {α : Type} (p : α → Bool) : List α → Nat → Int
  | [], _ => -1
  | x :: r, i => if p x then (i : Int) else idxK p r (i + 1)
theorem idxK_ge {α : Type} (p : α → Bool) : ∀ (l : List α) (i : Nat), (0 ≤ idxK p l i) ↔ l.any p = true
  | [], i => by simp [idxK]
  | x :: r, i => by
    have ih := idxK_ge p r (i + 1)
    unfold idxK
    cases h : p x
    · simpa [h] using ih
    · simp [h]
theorem idxK_drop {α : Type} (p : α → Bool) (l : List α) (i : Nat) (h : i < l.length) : idxK p (l.drop i) i = if p l[i] then (i : Int) else idxK p (l.drop (i + 1)) (i + 1) := by
  rw [List.drop_eq_getElem_cons h]; rfl
theorem idxK_any {α : Type} (p : α → Bool) (l : List α) : decide (0 ≤ idxK p l 0) = l.any p := by
  have := idxK_ge p l 0
  rw [Bool.eq_iff_iff, decide_eq_true_iff]
  exact this
/-- The same of a function value which turns nothing at all, and makes nothing. -/
def PredD {α : Type} (P : Program) (g : Nat) (lb : Array Value) (d : Kd α) (q : α → Prop) (p : α → Bool) (w : World) : Prop :=
  ∀ (W : World) (x : α) (v : Value), q x → d.K W x [v] → Below w.heap.size w W → Calls P g (#[v] ++ lb) W fun e w' => e = .returned (.bool (p x)) ∧ Drawn0 W w'
theorem PredD.toK {α : Type} {P : Program} {g : Nat} {lb : Array Value} {d : Kd α} {q : α → Prop} {p : α → Bool} {w : World} (h : PredD P g lb d q p w) : PredK P g lb d q p w :=
  fun W x v hq hK hb => (h W x v hq hK hb).mono fun _ _ hh => ⟨hh.1, hh.2.below⟩/-! ### impl_Net_reached: function 61 -/
-- EXTERNAL: by hand
-- slices_ContainsFunc_int64_int64_66
def netOwn (e : List Int) : Int := Go.bits .or .i64 (shl .i64 1 (rd e 0)) (shl .i64 1 (rd e 1))
mutual
def impl_Net_reached.l0 : Nat → (Int → Bool) → List (List Int) → Int → Int → Option Int
  | 0, _, _, _, _ => none
  | k + 1, acc, l, before, out => if before = out then some out else impl_Net_reached.l1 k acc l out out 0
def impl_Net_reached.l1 : Nat → (Int → Bool) → List (List Int) → Int → Int → Nat → Option Int
  | 0, _, _, _, _, _ => none
  | k + 1, acc, l, before, out, i => if i < l.length then (if acc (i : Int) = true then (if Go.bits .and .i64 out (netOwn (rd_L1 l i)) = 0 then impl_Net_reached.l1 k acc l before out (i + 1) else impl_Net_reached.l1 k acc l before (Go.bits .or .i64 out (netOwn (rd_L1 l i))) (i + 1)) else impl_Net_reached.l1 k acc l before out (i + 1)) else impl_Net_reached.l0 k acc l before out
end
theorem shl1_w {x j : Int} (h : shl .i64 1 x = j) : wrap64 (2 ^ min x.toNat 64) = j := by
  have h1 : IntKind.i64.wrap (1 * 2 ^ min x.toNat 64) = j := h
  rw [Int.one_mul] at h1
  exact (i64_w _).symm.trans h1
theorem shl1_u {x j : Int} (h : shl .i64 1 x = j) : IntKind.i64.wrap (2 ^ min x.toNat 64) = j := by
  have h1 : IntKind.i64.wrap (1 * 2 ^ min x.toNat 64) = j := h
  rw [Int.one_mul] at h1
  exact h1
set_option maxHeartbeats 2000000 in
set_option maxRecDepth 100000 in
theorem impl_Net_reached.calls (g : Nat) (lb : Array Value) (acc : Int → Bool) (eg : ∀ args w, (callFunc g args).run Tryd.prog w = .ok (.enter g args) w) (k : Nat)
    (a0_0 : Int) (A0_1 : Option Addr) (c0_1 : Nat) (l0_1 : List (List Int)) (a1 : Int) (r : Int) (w : World) (hp : PredK Tryd.prog g lb (Kd.int .i64) (fun x => 0 ≤ x ∧ x < (l0_1.length : Int)) acc w)
    (hr0_1 : Kd.C (Kd.slice 2 (Kd.int .i64)) w A0_1 l0_1.length l0_1) (hc0_1 : l0_1.length ≤ c0_1) (he : ∀ e ∈ l0_1, e.length = 2 ∧ 0 ≤ rd e 0 ∧ 0 ≤ rd e 1) (h1 : 0 ≤ a1) (h : impl_Net_reached.l0 k acc l0_1 0 (shl .i64 1 a1) = some r) :
    Calls Tryd.prog 61 #[.agg #[.int .i64 a0_0, .slice A0_1 l0_1.length c0_1], .int .i64 a1, .func (.func g) #[] lb] w fun e w' => e = .returned (.int .i64 r) ∧ Below w.heap.size w w' := by
  have HP := Aside0.mk hp
  have HR := Aside0.mk hr0_1
  have HE := Aside0.mk he
  have hm := hr0_1.2.1
  clear hp hr0_1 he
  have hu := Tryd.underlying28
  have HB0 := Aside0.mk (Below.refl w.heap.size w)
  obtain ⟨j0, hj0⟩ : ∃ j_ : Int, shl .i64 1 a1 = j_ := ⟨_, rfl⟩
  rw [hj0] at h
  have H' := Aside0.mk h
  clear h
  have hj0w := shl1_w hj0
  have hj0_ : IntKind.i64.wrap (1 * 2 ^ min a1.toNat 64) = j0 := hj0
  have hj0z : a1 ≤ 64 → IntKind.i64.wrap (1 * 2 ^ a1.toNat) = j0 := shl_small hj0
  have h1a := eq_true h1
  have h1b : decide (0 ≤ a1) = true := decide_eq_true h1
  clear hj0 h1
  go_enter Tryd.func61, Tryd.ntmps61
  go_wp2_with (first | ((with_reducible refine gate_dst (N := 3) rfl ?_); refine box_event ?hg (N := 3) ?hd (cs := #[.int .i64 a0_0, .slice A0_1 l0_1.length c0_1]) (t := 28) ?hr ?_; (case hd => rfl); (case hg => rfl); (case hr => first | (go_simp; done) | (go_simp; rfl)); intro gb hgb w1 hbox hb; have HB1 := Aside0.mk (below_step HB0.out hb); have HX1 := Aside0.mk hbox; clear hb hbox hgb))
  go_loopg [7, 8] k (fun kq s7 s8 wr => ∃ (o b : Int), s7 = .int .i64 o ∧ s8 = .int .i64 b ∧ Aside0 (impl_Net_reached.l0 kq acc l0_1 b o = some r) ∧ Aside0 (kq ≤ k) ∧ Aside0 (wr.heap[gb]? = some (.cells #[.int .i64 a0_0, .slice A0_1 l0_1.length c0_1] 28 (0, 0))) ∧ Aside0 (Below w.heap.size w wr))
  case atStart => exact ⟨j0, 0, (by rw [hj0w]), rfl, H', ⟨Nat.le_refl _⟩, ⟨HX1.out⟩, ⟨HB1.out⟩⟩
  case round =>
    clear H' h1a h1b hj0w hj0_ hj0z HB1 HX1
    obtain ⟨o, b, rfl, rfl, HA, HK, HX, HB⟩ := hrel
    cases gk with
    | zero => exact absurd HA.out (by simp [impl_Net_reached.l0])
    | succ k1 =>
      have H := HA.out
      clear HA
      simp only [impl_Net_reached.l0] at H
      by_cases c1 : b = o
      · rw [if_pos c1] at H
        have c1a : (b == o) = true := beq_iff_eq.mpr c1
        have c1b : (b != o) = false := bne_eq_false_iff_eq.mpr c1
        obtain rfl := Option.some.inj H
        clear c1
        go_wp2_with fail
        go_ret
        exact ⟨rfl, HB.out⟩
      · rw [if_neg c1] at H
        have c1a : (b == o) = false := beq_eq_false_iff_ne.mpr c1
        have c1b : (b != o) = true := bne_iff_ne.mpr c1
        have H' := Aside0.mk H
        clear H c1
        have hc1 : wr.cell? ⟨gb, 1, none⟩ = some (.slice A0_1 l0_1.length c0_1) := (blk_cell HX.out 1).trans rfl
        go_wp2_with fail
        clear c1a c1b hc1
        go_loopg [7, 21] k1 (fun kq s7 s21 wr => ∃ (o1 : Int) (ii : Nat), s7 = .int .i64 o1 ∧ s21 = .int .i64 ii ∧ ii ≤ l0_1.length ∧ Aside0 (impl_Net_reached.l1 kq acc l0_1 o o1 ii = some r) ∧ Aside0 (kq ≤ k1) ∧ Aside0 (wr.heap[gb]? = some (.cells #[.int .i64 a0_0, .slice A0_1 l0_1.length c0_1] 28 (0, 0))) ∧ Aside0 (Below w.heap.size w wr))
        case atStart => exact ⟨o, 0, rfl, rfl, Nat.zero_le _, H', ⟨Nat.le_refl _⟩, ⟨HX.out⟩, ⟨HB.out⟩⟩
        case round =>
          clear H' HX HB
          obtain ⟨o1, ii, rfl, rfl, hii, HA, HK2, HX, HB⟩ := hrel
          cases gk with
          | zero => exact absurd HA.out (by simp [impl_Net_reached.l1])
          | succ k2 =>
            have H := HA.out
            clear HA
            simp only [impl_Net_reached.l1] at H
            by_cases c2 : ii < l0_1.length
            · rw [if_pos c2] at H
              have c2a : decide ((ii : Int) < (l0_1.length : Int)) = true := decide_eq_true (by omega)
              have p : (0 : Int) ≤ (ii : Int) := by omega
              have q : (ii : Int) < (l0_1.length : Int) := by omega
              have hel := HE.out (rd_L1 l0_1 ii) (by show l0_1.getD ((ii : Int)).toNat [] ∈ l0_1; rw [Int.toNat_natCast, List.getD_eq_getElem?_getD, List.getElem?_eq_getElem c2]; exact List.getElem_mem c2)
              obtain ⟨ad, A, c, rfl, hx, hl, hi⟩ := at_L1 HR.out (ii : Int) p q
              have hcall := fun W hb => HP.out W (ii : Int) (.int .i64 ii) ⟨p, q⟩ rfl hb
              have hpq := eq_true q
              have hpp := eq_true p
              generalize rd_L1 l0_1 (ii : Int) = e at H hel hx hl hi
              obtain ⟨hlen, e0, e1⟩ := hel
              obtain ⟨ad0, rfl, hx0⟩ := Kd.at_int hi 0 (by omega) (by omega)
              obtain ⟨ad1, he1, hx1⟩ := Kd.at_int hi 1 (by omega) (by omega)
              obtain rfl : ad0 = ad1 := by injection he1
              replace hx := (HB.out.cell (World.block_lt_of_cell? w _ hx)).trans hx
              replace hx0 := (HB.out.cell (World.block_lt_of_cell? w _ hx0)).trans hx0
              replace hx1 := (HB.out.cell (World.block_lt_of_cell? w _ hx1)).trans hx1
              rw [Int.toNat_natCast] at hx
              (try rw [show ((0 : Int)).toNat = 0 from rfl] at hx0)
              (try rw [Addr.add_zero'] at hx0)
              (try rw [show ((1 : Int)).toNat = 1 from rfl] at hx1)
              (try simp only [show (1 : Int).toNat = 1 from rfl, Nat.reduceMul, Nat.reduceEqDiff, Go.Addr.add, ↓reduceIte] at hx1)
              have q0 : (0 < e.length) = True := eq_true (by omega)
              have q1 : (1 < e.length) = True := eq_true (by omega)
              have q0' : decide (0 < e.length) = true := decide_eq_true (by omega)
              have q1' : decide (1 < e.length) = true := decide_eq_true (by omega)
              have q0i : ((0 : Int) < (e.length : Int)) = True := eq_true (by omega)
              have q1i : ((1 : Int) < (e.length : Int)) = True := eq_true (by omega)
              have q0z : decide ((0 : Int) < (e.length : Int)) = true := decide_eq_true (by omega)
              have q1z : decide ((1 : Int) < (e.length : Int)) = true := decide_eq_true (by omega)
              unfold netOwn at H
              generalize rd e 0 = x0 at H e0 hx0
              generalize rd e 1 = x1 at H e1 hx1
              obtain ⟨j1, hj1⟩ : ∃ j_ : Int, shl .i64 1 x0 = j_ := ⟨_, rfl⟩
              obtain ⟨j2, hj2⟩ : ∃ j_ : Int, shl .i64 1 x1 = j_ := ⟨_, rfl⟩
              rw [hj1, hj2] at H
              have hj1w := shl1_w hj1
              have hj1u := shl1_u hj1
              have hj1_ : IntKind.i64.wrap (1 * 2 ^ min x0.toNat 64) = j1 := hj1
              have hj1z : x0 ≤ 64 → IntKind.i64.wrap (1 * 2 ^ x0.toNat) = j1 := shl_small hj1
              have hj2w := shl1_w hj2
              have hj2u := shl1_u hj2
              have hj2_ : IntKind.i64.wrap (1 * 2 ^ min x1.toNat 64) = j2 := hj2
              have hj2z : x1 ≤ 64 → IntKind.i64.wrap (1 * 2 ^ x1.toNat) = j2 := shl_small hj2
              have e0a := eq_true e0
              have e1a := eq_true e1
              have e0b : decide (0 ≤ x0) = true := decide_eq_true e0
              have e1b : decide (0 ≤ x1) = true := decide_eq_true e1
              clear hj1 hj2 e0 e1 hi hl hlen he1
              generalize acc (ii : Int) = bb at H hcall
              cases bb with
              | false =>
                rw [if_neg (by simp)] at H
                have H' := Aside0.mk H
                clear H
                go_wp2_with fail
                go_quiet (fail)
                go_wp2_with (go_at_fn g; refine (hcall _ (pw_below_drewN HB.out _)).mono ?_; rintro e w9 ⟨rfl, hb⟩; have HX9 := Aside0.mk (blk_below (blk_drewN HX.out nq) hb); have HB9 := Aside0.mk (below_step (pw_below_drewN HB.out nq) hb); clear hb)
                go_roundg k2
                case measure => have := HK.out; have := HK2.out; omega
                case rel => exact ⟨o1, ii + 1, rfl, (by go_num), by omega, H', ⟨by have := HK2.out; omega⟩, ⟨HX9.out⟩, ⟨HB9.out⟩⟩
              | true =>
                rw [if_pos rfl] at H
                by_cases c3 : Go.bits .and .i64 o1 (Go.bits .or .i64 j1 j2) = 0
                · rw [if_pos c3] at H
                  have c3a : (Go.bits .and .i64 o1 (Go.bits .or .i64 j1 j2) == 0) = true := beq_iff_eq.mpr c3
                  have c3b : (Go.bits .and .i64 o1 (Go.bits .or .i64 j1 j2) != 0) = false := bne_eq_false_iff_eq.mpr c3
                  clear c3
                  have H' := Aside0.mk H
                  clear H
                  go_wp2_with fail
                  go_quiet (fail)
                  go_wp2_with (go_at_fn g; refine (hcall _ (pw_below_drewN HB.out _)).mono ?_; rintro e w9 ⟨rfl, hb⟩; have HX9 := Aside0.mk (blk_below (blk_drewN HX.out nq) hb); have HB9 := Aside0.mk (below_step (pw_below_drewN HB.out nq) hb); clear hb)
                  go_roundg k2
                  case measure => have := HK.out; have := HK2.out; omega
                  case rel => exact ⟨o1, ii + 1, rfl, (by go_num), by omega, H', ⟨by have := HK2.out; omega⟩, ⟨HX9.out⟩, ⟨HB9.out⟩⟩
                · rw [if_neg c3] at H
                  have c3a : (Go.bits .and .i64 o1 (Go.bits .or .i64 j1 j2) == 0) = false := beq_eq_false_iff_ne.mpr c3
                  have c3b : (Go.bits .and .i64 o1 (Go.bits .or .i64 j1 j2) != 0) = true := bne_iff_ne.mpr c3
                  clear c3
                  have H' := Aside0.mk H
                  clear H
                  go_wp2_with fail
                  go_quiet (fail)
                  go_wp2_with (go_at_fn g; refine (hcall _ (pw_below_drewN HB.out _)).mono ?_; rintro e w9 ⟨rfl, hb⟩; have HX9 := Aside0.mk (blk_below (blk_drewN HX.out nq) hb); have HB9 := Aside0.mk (below_step (pw_below_drewN HB.out nq) hb); clear hb)
                  go_roundg k2
                  case measure => have := HK.out; have := HK2.out; omega
                  case rel => exact ⟨Go.bits .or .i64 o1 (Go.bits .or .i64 j1 j2), ii + 1, rfl, (by go_num), by omega, H', ⟨by have := HK2.out; omega⟩, ⟨HX9.out⟩, ⟨HB9.out⟩⟩
            · rw [if_neg c2] at H
              have c2a : decide ((ii : Int) < (l0_1.length : Int)) = false := decide_eq_false (by omega)
              have H' := Aside0.mk H
              clear H
              go_wp2_with fail
              go_roundg k2
              case measure => have := HK.out; have := HK2.out; omega
              case rel => exact ⟨o1, o, rfl, rfl, H', ⟨by have := HK.out; have := HK2.out; omega⟩, ⟨HX.out⟩, ⟨HB.out⟩⟩
/-! ### impl_chosen: function 70 -/
-- EXTERNAL: by hand
def chosenTo (p : Int → Bool) : Nat → List Int
  | 0 => []
  | k + 1 => if p (k : Int) then chosenTo p k ++ [(k : Int)] else chosenTo p k
theorem chosenTo_le (p : Int → Bool) : ∀ k, (chosenTo p k).length ≤ k
  | 0 => Nat.le_refl _
  | k + 1 => by
    have := chosenTo_le p k
    unfold chosenTo
    split
    · simp; omega
    · omega
set_option maxHeartbeats 4000000 in
set_option maxRecDepth 100000 in
theorem impl_chosen.calls (g : Nat) (lb : Array Value) (q : Int → Prop) (p : Int → Bool) (eg : ∀ args w, (callFunc g args).run Tryd.prog w = .ok (.enter g args) w)
    (n : Int) (w : World) (hp : PredK Tryd.prog g lb (Kd.int .i64) q p w) (hq : ∀ x, 0 ≤ x → x < n → q x) (hn : n ≤ 17592186044416) :
    Calls Tryd.prog 70 #[.int .i64 n, .func (.func g) #[] lb] w fun e w' => ∃ v0_ : Value, e = .returned v0_ ∧ Kd.R (Kd.int .i64) 2 w' w.heap.size (fun _ => True) v0_ (chosenTo p n.toNat) ∧ Below w.heap.size w w' := by
  have HP := Aside0.mk hp
  have HQ := Aside0.mk hq
  have HB0 := Aside0.mk (Below.refl w.heap.size w)
  clear hp hq
  go_enter Tryd.func70, Tryd.ntmps70
  go_wp2_with (first | ((with_reducible refine gate_dst (N := 7) rfl ?_); refine Kd.R_lit (Kd.int .i64) _ 2 ?hg (N := 7) ?hd (xs := ([] : List Int)) (inner := []) (ok := fun _ => True) (okp := fun _ => True) ?hr ?hp (fun _ hk => hk) trivial (Below.refl _ _) (Nat.le_refl _) (by simp) ?_; (case hd => rfl); (case hg => rfl); (case hr => first | (go_simp; done) | (go_simp; rfl)); (case hp => exact (Reps.none _ _)); intro v0 w0 ho hb hg_ hnew_; have HO0 := Aside0.mk ho; have HBl := Aside0.mk hb; clear hg_ hnew_ ho hb))
  go_loopg [5, 9] n.toNat (fun gg s5 s9 wr => ∃ kk : Nat, (kk : Int) ≤ max n 0 ∧ n.toNat - kk ≤ gg ∧ s9 = .int .i64 kk ∧ Aside0 (Kd.R (Kd.int .i64) 2 wr w.heap.size (fun _ => True) s5 (chosenTo p kk)) ∧ Aside0 (Below w.heap.size w wr))
  case atStart => exact ⟨0, by omega, by omega, rfl, ⟨HO0.out⟩, ⟨HBl.out⟩⟩
  case round =>
    obtain ⟨kk, hkk, hg, rfl, HO, HB⟩ := hrel
    clear HO0 HBl
    by_cases hlt : (kk : Int) < n
    · have hcall := HP.out wr kk (.int .i64 kk) (HQ.out _ (by omega) hlt) rfl HB.out
      have HL := Aside0.mk (chosenTo_le p kk)
      have hs : chosenTo p (kk + 1) = if p kk then chosenTo p kk ++ [(kk : Int)] else chosenTo p kk := rfl
      generalize p kk = b at hcall hs
      generalize chosenTo p kk = xs at HO HL hs
      have HS := Aside0.mk hs
      clear hs
      cases b with
      | true =>
        go_wp2_with (first | (go_at_fn g; refine hcall.mono ?_; rintro e w1 ⟨rfl, hb⟩; have HO1 := Aside0.mk (Kd.R_below HO.out hb); have HB1 := Aside0.mk (below_step HB.out hb); clear hb) | ((with_reducible refine gate_builtin (b := .append) (xs := #[.tmp 15, .tmp 17]) rfl ?_); at_builtin; refine Kd.R_append (Kd.int .i64) (w0 := w) w.heap.size rfl (.tmp 15) (.tmp 17) 38 2 (.int .i64 0) 8 rfl Tryd.underlying38 info2 rfl (by decide) (by omega) u5 xs (kk : Int) [.int .i64 kk] (fun _ => True) (fun _ => False) rfl rfl ?aP (fun _ hk => hk.elim) ?aF ?aO ?aB ?aS ?aL ?_; (case aP => exact rfl); (case aF => exact (fun _ _ => trivial)); (case aO => exact HO1.out); (case aB => exact HB1.out); (case aS => exact below_size HB1.out); (case aL => have := HL.out; omega); intro v2 w2 ho hb hg hat; have HO2 := Aside0.mk ho; have HB2 := Aside0.mk hb; clear ho hb hg hat))
        go_roundg (n.toNat - (kk + 1))
        case measure => omega
        case rel => exact ⟨kk + 1, by omega, by omega, by go_num, ⟨by rw [HS.out]; exact HO2.out⟩, ⟨HB2.out⟩⟩
      | false =>
        go_wp2_with (go_at_fn g; refine hcall.mono ?_; rintro e w1 ⟨rfl, hb⟩; have HO1 := Aside0.mk (Kd.R_below HO.out hb); have HB1 := Aside0.mk (below_step HB.out hb); clear hb)
        go_roundg (n.toNat - (kk + 1))
        case measure => omega
        case rel => exact ⟨kk + 1, by omega, by omega, by go_num, ⟨by rw [HS.out]; exact HO1.out⟩, ⟨HB1.out⟩⟩
    · have : kk = n.toNat := by omega
      subst this
      go_wp2
      go_ret
      exact ⟨_, rfl, HO.out, HB.out⟩
-- Bits of whole numbers that are not less than 0.
theorem bitv_nat (a : Nat) (ha : a < 9223372036854775808) : (BitVec.ofInt 64 (a : Int)).toNat = a := by
  rw [BitVec.ofInt_natCast, BitVec.toNat_ofNat]; exact Nat.mod_eq_of_lt (by omega)
theorem i64_nat (n : Nat) (h : n < 9223372036854775808) : IntKind.i64.wrap (n : Int) = (n : Int) := by
  rw [i64_w]; unfold wrap64; omega
theorem bits_and_nat (a b : Nat) (ha : a < 9223372036854775808) (hb : b < 9223372036854775808) : Go.bits .and .i64 (a : Int) (b : Int) = ((a &&& b : Nat) : Int) := by
  have hx : a &&& b < 2 ^ 63 := Nat.and_lt_two_pow _ (by omega)
  show IntKind.i64.wrap ((BitVec.ofInt 64 (a : Int) &&& BitVec.ofInt 64 (b : Int)).toNat : Int) = _
  rw [BitVec.toNat_and, bitv_nat a ha, bitv_nat b hb, i64_nat _ (by omega)]
theorem bits_or_nat (a b : Nat) (ha : a < 9223372036854775808) (hb : b < 9223372036854775808) : Go.bits .or .i64 (a : Int) (b : Int) = ((a ||| b : Nat) : Int) := by
  have hx : a ||| b < 2 ^ 63 := Nat.or_lt_two_pow (by omega) (by omega)
  show IntKind.i64.wrap ((BitVec.ofInt 64 (a : Int) ||| BitVec.ofInt 64 (b : Int)).toNat : Int) = _
  rw [BitVec.toNat_or, bitv_nat a ha, bitv_nat b hb, i64_nat _ (by omega)]
/-- What a has and b has not. -/
def butNat (a b : Nat) : Nat := (BitVec.ofInt 64 (a : Int) &&& ~~~ BitVec.ofInt 64 (b : Int)).toNat
theorem butNat_bit (a b i : Nat) (ha : a < 9223372036854775808) (hb : b < 9223372036854775808) : (butNat a b).testBit i = (a.testBit i && !b.testBit i) := by
  unfold butNat
  rw [← BitVec.getLsbD, BitVec.getLsbD_and, BitVec.getLsbD_not, BitVec.getLsbD, BitVec.getLsbD, bitv_nat a ha, bitv_nat b hb]
  by_cases h : i < 64
  · simp [h]
  · have : a.testBit i = false := Nat.testBit_lt_two_pow (Nat.lt_of_lt_of_le ha (by have : 2 ^ 63 ≤ 2 ^ i := Nat.pow_le_pow_right (by omega) (by omega); omega))
    simp [h, this]
theorem butNat_lt (a b : Nat) (ha : a < 9223372036854775808) (hb : b < 9223372036854775808) : butNat a b ≤ a := by
  unfold butNat
  rw [BitVec.toNat_and, bitv_nat a ha]
  exact Nat.and_le_left
theorem bits_but_nat (a b : Nat) (ha : a < 9223372036854775808) (hb : b < 9223372036854775808) : Go.bits .andNot .i64 (a : Int) (b : Int) = ((butNat a b : Nat) : Int) := by
  show IntKind.i64.wrap ((BitVec.ofInt 64 (a : Int) &&& ~~~ BitVec.ofInt 64 (b : Int)).toNat : Int) = _
  have := butNat_lt a b ha hb
  unfold butNat at this ⊢
  rw [i64_nat _ (by omega)]
theorem shl_nat (i : Nat) (h : i < 63) : shl .i64 1 (i : Int) = ((2 ^ i : Nat) : Int) := by
  unfold shl
  have h1 : min ((i : Int)).toNat IntKind.i64.bits = i := by rw [Int.toNat_natCast]; show min i 64 = i; omega
  rw [h1, Int.one_mul]
  have h2 : (2 : Nat) ^ i < 9223372036854775808 := by
    have : (2 : Nat) ^ i < 2 ^ 63 := Nat.pow_lt_pow_right (by omega) h
    omega
  have h3 : ((2 : Int) ^ i) = ((2 ^ i : Nat) : Int) := by simp
  rw [h3, i64_nat _ h2]
theorem shr_nat (m i : Nat) (h : i ≤ 64) : shr .i64 (m : Int) (i : Int) = ((m >>> i : Nat) : Int) := by
  unfold shr
  have h1 : min ((i : Int)).toNat IntKind.i64.bits = i := by rw [Int.toNat_natCast]; show min i 64 = i; omega
  rw [h1, Nat.shiftRight_eq_div_pow]
  simp
/-- One bit read. -/
theorem bit_nat (m i : Nat) (hm : m < 9223372036854775808) (h : i ≤ 64) : Go.bits .and .i64 (shr .i64 (m : Int) (i : Int)) 1 = if m.testBit i = true then 1 else 0 := by
  rw [shr_nat m i h]
  have hs : m >>> i ≤ m := Nat.shiftRight_le m i
  have := bits_and_nat (m >>> i) 1 (by omega) (by omega)
  rw [show ((1 : Int)) = ((1 : Nat) : Int) from rfl, this]
  unfold Nat.testBit
  rw [Nat.and_comm 1]
  rw [Nat.and_one_is_mod]
  rcases Nat.mod_two_eq_zero_or_one (m >>> i) with e | e <;> rw [e] <;> simp
theorem u64_nat (i : Nat) (h : i < 9223372036854775808) : IntKind.u64.wrap (i : Int) = (i : Int) := by
  show (i : Int) % 18446744073709551616 = i
  omega

end Go.Proofs.YtcjeccohlmmfoaaDoor.F
