-- written by the session's program xp.py over the kit's print program, and by hand; texts joined by pack.py
import Derived.Test.YtiancdhpdjmacaaKFnExactCertainCells3
namespace Go.Proofs.Ytiancdhpdjmacaa.F
open Go.RowKit Go.Proofs.YtiancdhpdjmacaaW.PrintWords Go.Proofs.YtiancdhpdjmacaaW.PrintLast Go.Proofs.YtiancdhpdjmacaaW.PrintMore
attribute [local go_sem] max2_int min2_int max_two min_two max_three min_three max_four min_four   -- for this text's walks alone
set_option linter.unusedVariables false
set_option linter.unusedSimpArgs false

/-! ### spec_l09Agrees: function 84 -/
def spec_l09Agrees.l0 : Nat → List Int → List (S93) → Int → Int → Option (Bool)
 | 0, _, _, _, _ => none
 | k + 1, x0, x1, x5, x6 => if x6 < (x1.length : Int) then (if 0 ≤ x6 then (if 0 ≤ (IntKind.u64.wrap ((rd_T93 x1 x6).f0)) then ((spec_l09Answer.f k x0 ((rd_T93 x1 x6).f0) (Go.bits .or .i64 x5 (shl .i64 1 (IntKind.u64.wrap ((rd_T93 x1 x6).f0))))).bind fun t462 => (if t462 = ((rd_T93 x1 x6).f1) then (spec_l09Agrees.l0 k x0 x1 (Go.bits .or .i64 x5 (shl .i64 1 (IntKind.u64.wrap ((rd_T93 x1 x6).f0)))) (wrap64 (x6 + 1))) else (some false))) else (none)) else (none)) else (some true)
def spec_l09Agrees.f (k : Nat) (l0 : List Int) (l1 : List (S93)) : Option (Bool) := spec_l09Agrees.l0 k l0 l1 0 0
set_option maxHeartbeats 8000000 in
set_option maxRecDepth 100000 in
theorem spec_l09Agrees.calls (k : Nat) (A0 : Option Addr) (c0 : Nat) (l0 : List Int) (A1 : Option Addr) (c1 : Nat) (l1 : List (S93)) (r : Bool) (w : World) (hr0 : Kd.C (Kd.int .i64) w A0 l0.length l0) (hc0 : l0.length ≤ c0) (hr1 : Kd.C k93 w A1 l1.length l1) (hc1 : l1.length ≤ c1) (h : spec_l09Agrees.f k l0 l1 = some r) :
  Calls Try.prog 84 #[.slice A0 l0.length c0, .slice A1 l1.length c1] w fun e w' => e = .returned (.bool r) ∧ Drawn0 w w' := by
 have HR0 := Aside0.mk hr0
 have HC0 := Aside0.mk hc0
 clear hr0 hc0
 have HR1 := Aside0.mk hr1
 have HC1 := Aside0.mk hc1
 clear hr1 hc1
 have H : (spec_l09Agrees.l0 k l0 l1 0 0) = some r := h
 clear h
 have H' := Aside0.mk H
 clear H
 go_enter Try.func84, Try.ntmps84
 go_wp2
 repeat (go_quiet (fail); try go_wp2)
 go_loopg [5, 6] k (fun kq v5 v6 w' => ∃ (x5_1 : Int) (x6_1 : Int), v5 = .int .i64 x5_1 ∧ v6 = .int .i64 x6_1 ∧ Aside0 (spec_l09Agrees.l0 kq l0 l1 x5_1 x6_1 = some r) ∧ Aside0 (kq ≤ k) ∧ Drawn0 w w')
 case atStart => exact ⟨(0), (0), (by first | rfl | (simp; done) | (simp [*]; done)), (by first | rfl | (simp; done) | (simp [*]; done)), H', ⟨Nat.le_refl _⟩, by repeat (first | exact Drawn0.refl _ | apply Drawn0.step)⟩
 case round =>
  clear H'
  (try clear c1); (try clear p2)
  obtain ⟨x5_1, x6_1, rfl, rfl, HA, HK1, ⟨m1, rfl⟩⟩ := hrel
  cases gk with
  | zero => exact absurd HA.out (by simp [spec_l09Agrees.l0])
  | succ k1 =>
   have H := HA.out
   clear HA
   simp only [spec_l09Agrees.l0] at H
   by_cases c3 : x6_1 < (l1.length : Int)
   ·rw [if_pos c3] at H
    have c3b0 : decide (x6_1 < (l1.length : Int)) = true := decide_eq_true c3
    clear c3
    by_cases c4 : 0 ≤ x6_1
    ·rw [if_pos c4] at H
     have c4b0 : decide (0 ≤ x6_1) = true := decide_eq_true c4
     clear c4
     obtain ⟨ji5, hji5⟩ : ∃ j_ : Int, (IntKind.u64.wrap ((rd_T93 l1 x6_1).f0)) = j_ := ⟨_, rfl⟩
     replace H : (if 0 ≤ (ji5) then ((spec_l09Answer.f k1 l0 ((rd_T93 l1 x6_1).f0) (Go.bits .or .i64 x5_1 (shl .i64 1 (ji5)))).bind fun t462 => (if t462 = ((rd_T93 l1 x6_1).f1) then (spec_l09Agrees.l0 k1 l0 l1 (Go.bits .or .i64 x5_1 (shl .i64 1 (ji5))) (wrap64 (x6_1 + 1))) else (some false))) else (none)) = some r := by first | (rw [hji5] at H; exact H) | (simp only [hji5] at H ⊢; exact H)
     by_cases c6 : 0 ≤ (ji5)
     ·rw [if_pos c6] at H
      have c6b0 := eq_true c6
      have c6b1 : decide (0 ≤ (ji5)) = true := decide_eq_true c6
      clear c6
      obtain ⟨ji7, hji7⟩ : ∃ j_ : Int, (shl .i64 1 (ji5)) = j_ := ⟨_, rfl⟩
      replace H : ((spec_l09Answer.f k1 l0 ((rd_T93 l1 x6_1).f0) (Go.bits .or .i64 x5_1 (ji7))).bind fun t462 => (if t462 = ((rd_T93 l1 x6_1).f1) then (spec_l09Agrees.l0 k1 l0 l1 (Go.bits .or .i64 x5_1 (ji7)) (wrap64 (x6_1 + 1))) else (some false))) = some r := by first | (rw [hji7] at H; exact H) | (simp only [hji7] at H ⊢; exact H)
      have hji7_ : (IntKind.i64.wrap (1 * 2 ^ min (ji5).toNat 64)) = ji7 := hji7
      have hji7z : (ji5) ≤ 64 → (IntKind.i64.wrap (1 * 2 ^ (ji5).toNat)) = ji7 := shl_small hji7
      have hji7u : (IntKind.i64.wrap (2 ^ min (ji5).toNat 64)) = ji7 := by have h_ := hji7_; rw [Int.one_mul] at h_; exact h_
      have hji7v : (ji5) ≤ 64 → (IntKind.i64.wrap (2 ^ (ji5).toNat)) = ji7 := fun hle_ => by have h_ := hji7z hle_; rw [Int.one_mul] at h_; exact h_
      have hji7y : (wrap64 (1 * 2 ^ min (ji5).toNat 64)) = ji7 := (i64_w _).symm.trans hji7_
      have hji7x : (ji5) ≤ 64 → (wrap64 (1 * 2 ^ (ji5).toNat)) = ji7 := fun h_ => (i64_w _).symm.trans (hji7z h_)
      replace H := Option.bind_eq_some_iff.mp H
      obtain ⟨t462, A80, H⟩ := H
      replace H : (if t462 = ((rd_T93 l1 x6_1).f1) then (spec_l09Agrees.l0 k1 l0 l1 (Go.bits .or .i64 x5_1 (ji7)) (wrap64 (x6_1 + 1))) else (some false)) = some r := H
      have A8 := Aside0.mk A80
      clear A80
      by_cases c9 : t462 = ((rd_T93 l1 x6_1).f1)
      ·rw [if_pos c9] at H
       have c9b0 : (t462 == ((rd_T93 l1 x6_1).f1)) = true := beq_iff_eq.mpr c9
       have c9b1 : (t462 != ((rd_T93 l1 x6_1).f1)) = false := bne_eq_false_iff_eq.mpr c9
       clear c9
       have H' := Aside0.mk H
       clear H
       have p460 : 0 ≤ (x6_1 : Int) := oda
       have q460 : x6_1 < (l1.length : Int) := oda
       obtain ⟨ad460, e460, hx460_0, hx460_1⟩ := at_T93 HR1.out x6_1 p460 q460
       cases e460
       replace p460 := eq_true p460
       replace q460 := eq_true q460
       have p461 : 0 ≤ (x6_1 : Int) := oda
       have q461 : x6_1 < (l1.length : Int) := oda
       obtain ⟨ad461, e461, hx461_0, hx461_1⟩ := at_T93 HR1.out x6_1 p461 q461
       obtain rfl : ad460 = ad461 := (by injection e461)
       replace p461 := eq_true p461
       replace q461 := eq_true q461
       (try (have p463 : 0 ≤ (x6_1 : Int) := oda; have q463 : x6_1 < (l1.length : Int) := oda; obtain ⟨ad463, e463, hx463_0, hx463_1⟩ := at_T93 HR1.out x6_1 p463 q463; obtain rfl : ad460 = ad463 := (by injection e463); replace p463 := eq_true p463; replace q463 := eq_true q463))
       go_wp2_with (first | (go_at_call 77; (with_reducible refine (spec_l09Answer.calls k1 _ _ l0 ((rd_T93 l1 x6_1).f0) (Go.bits .or .i64 x5_1 (ji7)) t462 _ ?side1 ?side2 A8.out).mono ?_); (case side1 => repeat (first | exact HR0.out | (with_reducible refine Kd.C_alloc ?_ _) | (with_reducible refine Kd.C_drewN ?_ _) | (with_reducible refine Kd.C_drew ?_))); (case side2 => exact HC0.out); rintro e w' ⟨rfl, ⟨nd, rfl⟩⟩; (try first | exact ⟨rfl, _, World.drewN_drewN _ _ _⟩ | exact ⟨rfl, _, Eq.trans (World.drewN_drewN _ _ _) (congrArg (World.drewN _) (Nat.add_assoc _ _ _))⟩); have p463 : 0 ≤ (x6_1 : Int) := oda; have q463 : x6_1 < (l1.length : Int) := oda; obtain ⟨ad463, e463, hx463_0, hx463_1⟩ := at_T93 HR1.out x6_1 p463 q463; obtain rfl : ad460 = ad463 := (by injection e463); replace p463 := eq_true p463; replace q463 := eq_true q463))
       repeat (go_quiet (first | (go_at_call 77; (with_reducible refine (spec_l09Answer.calls k1 _ _ l0 ((rd_T93 l1 x6_1).f0) (Go.bits .or .i64 x5_1 (ji7)) t462 _ ?side1 ?side2 A8.out).mono ?_); (case side1 => repeat (first | exact HR0.out | (with_reducible refine Kd.C_alloc ?_ _) | (with_reducible refine Kd.C_drewN ?_ _) | (with_reducible refine Kd.C_drew ?_))); (case side2 => exact HC0.out); rintro e w' ⟨rfl, ⟨nd, rfl⟩⟩; (try first | exact ⟨rfl, _, World.drewN_drewN _ _ _⟩ | exact ⟨rfl, _, Eq.trans (World.drewN_drewN _ _ _) (congrArg (World.drewN _) (Nat.add_assoc _ _ _))⟩))); try go_wp2_with (first | (go_at_call 77; (with_reducible refine (spec_l09Answer.calls k1 _ _ l0 ((rd_T93 l1 x6_1).f0) (Go.bits .or .i64 x5_1 (ji7)) t462 _ ?side1 ?side2 A8.out).mono ?_); (case side1 => repeat (first | exact HR0.out | (with_reducible refine Kd.C_alloc ?_ _) | (with_reducible refine Kd.C_drewN ?_ _) | (with_reducible refine Kd.C_drew ?_))); (case side2 => exact HC0.out); rintro e w' ⟨rfl, ⟨nd, rfl⟩⟩; (try first | exact ⟨rfl, _, World.drewN_drewN _ _ _⟩ | exact ⟨rfl, _, Eq.trans (World.drewN_drewN _ _ _) (congrArg (World.drewN _) (Nat.add_assoc _ _ _))⟩); have p463 : 0 ≤ (x6_1 : Int) := oda; have q463 : x6_1 < (l1.length : Int) := oda; obtain ⟨ad463, e463, hx463_0, hx463_1⟩ := at_T93 HR1.out x6_1 p463 q463; obtain rfl : ad460 = ad463 := (by injection e463); replace p463 := eq_true p463; replace q463 := eq_true q463)))
       go_roundg k1
       case measure => have := HK1.out; omega
       case rel => exact ⟨(Go.bits .or .i64 x5_1 (ji7)), (wrap64 (x6_1 + 1)), (by first | rfl | (simp; done) | (simp only [← hji7] <;> (first | rfl | simp)) | (simp [*]; done)), (by first | rfl | (simp; done) | (simp [*]; done)), H', ⟨by have := HK1.out; omega⟩, by repeat (first | exact Drawn0.refl _ | apply Drawn0.step)⟩
      ·rw [if_neg c9] at H
       have c9b0 : (t462 == ((rd_T93 l1 x6_1).f1)) = false := beq_eq_false_iff_ne.mpr c9
       have c9b1 : (t462 != ((rd_T93 l1 x6_1).f1)) = true := bne_iff_ne.mpr c9
       obtain rfl := Option.some.inj H
       have p460 : 0 ≤ (x6_1 : Int) := oda
       have q460 : x6_1 < (l1.length : Int) := oda
       obtain ⟨ad460, e460, hx460_0, hx460_1⟩ := at_T93 HR1.out x6_1 p460 q460
       cases e460
       replace p460 := eq_true p460
       replace q460 := eq_true q460
       have p461 : 0 ≤ (x6_1 : Int) := oda
       have q461 : x6_1 < (l1.length : Int) := oda
       obtain ⟨ad461, e461, hx461_0, hx461_1⟩ := at_T93 HR1.out x6_1 p461 q461
       obtain rfl : ad460 = ad461 := (by injection e461)
       replace p461 := eq_true p461
       replace q461 := eq_true q461
       (try (have p463 : 0 ≤ (x6_1 : Int) := oda; have q463 : x6_1 < (l1.length : Int) := oda; obtain ⟨ad463, e463, hx463_0, hx463_1⟩ := at_T93 HR1.out x6_1 p463 q463; obtain rfl : ad460 = ad463 := (by injection e463); replace p463 := eq_true p463; replace q463 := eq_true q463))
       go_wp2_with (first | (go_at_call 77; (with_reducible refine (spec_l09Answer.calls k1 _ _ l0 ((rd_T93 l1 x6_1).f0) (Go.bits .or .i64 x5_1 (ji7)) t462 _ ?side1 ?side2 A8.out).mono ?_); (case side1 => repeat (first | exact HR0.out | (with_reducible refine Kd.C_alloc ?_ _) | (with_reducible refine Kd.C_drewN ?_ _) | (with_reducible refine Kd.C_drew ?_))); (case side2 => exact HC0.out); rintro e w' ⟨rfl, ⟨nd, rfl⟩⟩; (try first | exact ⟨rfl, _, World.drewN_drewN _ _ _⟩ | exact ⟨rfl, _, Eq.trans (World.drewN_drewN _ _ _) (congrArg (World.drewN _) (Nat.add_assoc _ _ _))⟩); have p463 : 0 ≤ (x6_1 : Int) := oda; have q463 : x6_1 < (l1.length : Int) := oda; obtain ⟨ad463, e463, hx463_0, hx463_1⟩ := at_T93 HR1.out x6_1 p463 q463; obtain rfl : ad460 = ad463 := (by injection e463); replace p463 := eq_true p463; replace q463 := eq_true q463))
       repeat (go_quiet (first | (go_at_call 77; (with_reducible refine (spec_l09Answer.calls k1 _ _ l0 ((rd_T93 l1 x6_1).f0) (Go.bits .or .i64 x5_1 (ji7)) t462 _ ?side1 ?side2 A8.out).mono ?_); (case side1 => repeat (first | exact HR0.out | (with_reducible refine Kd.C_alloc ?_ _) | (with_reducible refine Kd.C_drewN ?_ _) | (with_reducible refine Kd.C_drew ?_))); (case side2 => exact HC0.out); rintro e w' ⟨rfl, ⟨nd, rfl⟩⟩; (try first | exact ⟨rfl, _, World.drewN_drewN _ _ _⟩ | exact ⟨rfl, _, Eq.trans (World.drewN_drewN _ _ _) (congrArg (World.drewN _) (Nat.add_assoc _ _ _))⟩))); try go_wp2_with (first | (go_at_call 77; (with_reducible refine (spec_l09Answer.calls k1 _ _ l0 ((rd_T93 l1 x6_1).f0) (Go.bits .or .i64 x5_1 (ji7)) t462 _ ?side1 ?side2 A8.out).mono ?_); (case side1 => repeat (first | exact HR0.out | (with_reducible refine Kd.C_alloc ?_ _) | (with_reducible refine Kd.C_drewN ?_ _) | (with_reducible refine Kd.C_drew ?_))); (case side2 => exact HC0.out); rintro e w' ⟨rfl, ⟨nd, rfl⟩⟩; (try first | exact ⟨rfl, _, World.drewN_drewN _ _ _⟩ | exact ⟨rfl, _, Eq.trans (World.drewN_drewN _ _ _) (congrArg (World.drewN _) (Nat.add_assoc _ _ _))⟩); have p463 : 0 ≤ (x6_1 : Int) := oda; have q463 : x6_1 < (l1.length : Int) := oda; obtain ⟨ad463, e463, hx463_0, hx463_1⟩ := at_T93 HR1.out x6_1 p463 q463; obtain rfl : ad460 = ad463 := (by injection e463); replace p463 := eq_true p463; replace q463 := eq_true q463)))
       go_ret
       exact ⟨by first | rfl | (simp; done) | (simp only [← hji5, ← hji7] <;> (first | rfl | simp)) | (simp [*]; done), by repeat (first | exact Drawn0.refl _ | apply Drawn0.step)⟩
     ·rw [if_neg c6] at H
      exact absurd H (by simp)
    ·rw [if_neg c4] at H
     exact absurd H (by simp)
   ·rw [if_neg c3] at H
    have c3b0 : decide (x6_1 < (l1.length : Int)) = false := decide_eq_false c3
    clear c3
    obtain rfl := Option.some.inj H
    go_wp2
    repeat (go_quiet (fail); try go_wp2)
    go_ret
    exact ⟨by first | rfl | (simp; done) | (simp [*]; done), by repeat (first | exact Drawn0.refl _ | apply Drawn0.step)⟩
/-! ### impl_bit: function 108 -/
def impl_bit.f (a0 : Bool) : Option (Int) := if a0 = true then (some 1) else (some 0)
set_option maxHeartbeats 8000000 in
set_option maxRecDepth 100000 in
theorem impl_bit.calls (a0 : Bool) (r : Int) (w : World) (h : impl_bit.f a0 = some r) :
  Calls Try.prog 108 #[.bool a0] w fun e w' => e = .returned (.int .i64 r) ∧ Drawn0 w w' := by
 have H : (if a0 = true then (some 1) else (some 0)) = some r := h
 clear h
 by_cases c2 : a0 = true
 ·subst c2
  have H1 : (some 1) = some r := by rw [if_pos rfl] at H; exact H
  clear H
  have H := H1
  clear H1
  obtain rfl := Option.some.inj H
  go_enter Try.func108, Try.ntmps108
  go_wp2
  go_ret
  exact ⟨by first | rfl | (simp; done) | (simp [*]; done), by repeat (first | exact Drawn0.refl _ | apply Drawn0.step)⟩
 ·replace c2 := Bool.eq_false_iff.mpr c2
  subst c2
  have H1 : (some 0) = some r := by rw [if_neg (show ¬ (false = true) by decide)] at H; exact H
  clear H
  have H := H1
  clear H1
  obtain rfl := Option.some.inj H
  go_enter Try.func108, Try.ntmps108
  go_wp2
  go_ret
  exact ⟨by first | rfl | (simp; done) | (simp [*]; done), by repeat (first | exact Drawn0.refl _ | apply Drawn0.step)⟩
/-! ### impl_answer: function 78 -/
def impl_answer.l0 : Nat → Int → Int → List Int → Int → Int → Option (Int)
 | 0, _, _, _, _, _ => none
 | k + 1, x1, x2, x9, x10, x11 => if x11 < x10 then (if 0 ≤ x11 then (if x11 < (x9.length : Int) then (if 0 ≤ x2 then (if (Go.bits .and .i64 (shr .i64 (rd x9 x11) x2) 1) = 1 then ((impl_bit.f ((Go.bits .andNot .i64 (rd x9 x11) (Go.bits .or .i64 x1 (shl .i64 1 x2))) == 0)).bind fun t620 => (some (wrap64 (1 + t620)))) else (impl_answer.l0 k x1 x2 x9 x10 (wrap64 (x11 + 1)))) else (none)) else (none)) else (none)) else (some 0)
def impl_answer.f (k : Nat) (l0 : List Int) (a1 : Int) (a2 : Int) : Option (Int) := impl_answer.l0 k a1 a2 l0 (l0.length : Int) 0
set_option maxHeartbeats 8000000 in
set_option maxRecDepth 100000 in
theorem impl_answer.calls (k : Nat) (A0 : Option Addr) (c0 : Nat) (l0 : List Int) (a1 : Int) (a2 : Int) (r : Int) (w : World) (hr0 : Kd.C (Kd.int .i64) w A0 l0.length l0) (hc0 : l0.length ≤ c0) (h : impl_answer.f k l0 a1 a2 = some r) :
  Calls Try.prog 78 #[.slice A0 l0.length c0, .int .i64 a1, .int .i64 a2] w fun e w' => e = .returned (.int .i64 r) ∧ Drawn0 w w' := by
 have HR0 := Aside0.mk hr0
 have HC0 := Aside0.mk hc0
 clear hr0 hc0
 have H : (impl_answer.l0 k a1 a2 l0 (l0.length : Int) 0) = some r := h
 clear h
 have H' := Aside0.mk H
 clear H
 go_enter Try.func78, Try.ntmps78
 go_wp2
 go_loopg [11] k (fun kq v11 w' => ∃ (x11_1 : Int), v11 = .int .i64 x11_1 ∧ Aside0 (impl_answer.l0 kq a1 a2 l0 (l0.length : Int) x11_1 = some r) ∧ Aside0 (kq ≤ k) ∧ Drawn0 w w')
 case atStart => exact ⟨(0), (by first | rfl | (simp; done) | (simp [*]; done)), H', ⟨Nat.le_refl _⟩, by repeat (first | exact Drawn0.refl _ | apply Drawn0.step)⟩
 case round =>
  clear H'
  (try clear p2)
  obtain ⟨x11_1, rfl, HA, HK1, ⟨m1, rfl⟩⟩ := hrel
  cases gk with
  | zero => exact absurd HA.out (by simp [impl_answer.l0])
  | succ k1 =>
   have H := HA.out
   clear HA
   simp only [impl_answer.l0] at H
   by_cases c4 : x11_1 < (l0.length : Int)
   ·rw [if_pos c4] at H
    have c4b0 : decide (x11_1 < (l0.length : Int)) = true := decide_eq_true c4
    clear c4
    by_cases c5 : 0 ≤ x11_1
    ·rw [if_pos c5] at H
     have c5b0 : decide (0 ≤ x11_1) = true := decide_eq_true c5
     clear c5
     by_cases c6 : x11_1 < (l0.length : Int)
     ·rw [if_pos c6] at H
      have c6b0 : decide (x11_1 < (l0.length : Int)) = true := decide_eq_true c6
      clear c6
      by_cases c7 : 0 ≤ a2
      ·rw [if_pos c7] at H
       have c7b0 := eq_true c7
       have c7b1 : decide (0 ≤ a2) = true := decide_eq_true c7
       clear c7
       obtain ⟨ji8, hji8⟩ : ∃ j_ : Int, (shr .i64 (rd l0 x11_1) a2) = j_ := ⟨_, rfl⟩
       replace H : (if (Go.bits .and .i64 (ji8) 1) = 1 then ((impl_bit.f ((Go.bits .andNot .i64 (rd l0 x11_1) (Go.bits .or .i64 a1 (shl .i64 1 a2))) == 0)).bind fun t620 => (some (wrap64 (1 + t620)))) else (impl_answer.l0 k1 a1 a2 l0 (l0.length : Int) (wrap64 (x11_1 + 1)))) = some r := by first | (rw [hji8] at H; exact H) | (simp only [hji8] at H ⊢; exact H)
       have hji8_ : ((rd l0 x11_1) / 2 ^ min a2.toNat 64) = ji8 := hji8
       have hji8z : a2 ≤ 64 → ((rd l0 x11_1) / 2 ^ a2.toNat) = ji8 := shr_small hji8
       by_cases c9 : (Go.bits .and .i64 (ji8) 1) = 1
       ·rw [if_pos c9] at H
        have c9b0 : ((Go.bits .and .i64 (ji8) 1) == 1) = true := beq_iff_eq.mpr c9
        have c9b1 : ((Go.bits .and .i64 (ji8) 1) != 1) = false := bne_eq_false_iff_eq.mpr c9
        clear c9
        have c10b0 := eq_true (oda : 0 ≤ a2)
        obtain ⟨ji11, hji11⟩ : ∃ j_ : Int, (shl .i64 1 a2) = j_ := ⟨_, rfl⟩
        replace H : ((impl_bit.f ((Go.bits .andNot .i64 (rd l0 x11_1) (Go.bits .or .i64 a1 (ji11))) == 0)).bind fun t620 => (some (wrap64 (1 + t620)))) = some r := by first | (rw [hji11] at H; exact H) | (simp only [hji11] at H ⊢; exact H)
        have hji11_ : (IntKind.i64.wrap (1 * 2 ^ min a2.toNat 64)) = ji11 := hji11
        have hji11z : a2 ≤ 64 → (IntKind.i64.wrap (1 * 2 ^ a2.toNat)) = ji11 := shl_small hji11
        have hji11u : (IntKind.i64.wrap (2 ^ min a2.toNat 64)) = ji11 := by have h_ := hji11_; rw [Int.one_mul] at h_; exact h_
        have hji11v : a2 ≤ 64 → (IntKind.i64.wrap (2 ^ a2.toNat)) = ji11 := fun hle_ => by have h_ := hji11z hle_; rw [Int.one_mul] at h_; exact h_
        have hji11y : (wrap64 (1 * 2 ^ min a2.toNat 64)) = ji11 := (i64_w _).symm.trans hji11_
        have hji11x : a2 ≤ 64 → (wrap64 (1 * 2 ^ a2.toNat)) = ji11 := fun h_ => (i64_w _).symm.trans (hji11z h_)
        replace H := Option.bind_eq_some_iff.mp H
        obtain ⟨t620, A120, H⟩ := H
        replace H : (some (wrap64 (1 + t620))) = some r := H
        have A12 := Aside0.mk A120
        clear A120
        obtain rfl := Option.some.inj H
        have p619 : 0 ≤ (x11_1 : Int) := oda
        have q619 : x11_1 < (l0.length : Int) := oda
        obtain ⟨ad619, e619, hx619_0⟩ := Kd.at_int HR0.out x11_1 p619 q619
        cases e619
        replace p619 := eq_true p619
        replace q619 := eq_true q619
        go_wp2_with (first | ((with_reducible refine gate_callee (f := 108) rfl ?_); refine goesL_ (some 27) rfl rfl Try.func108 (by kernel_rfl) rfl #[.bool ((Go.bits .andNot .i64 (rd l0 x11_1) (Go.bits .or .i64 a1 (ji11))) == 0)] rfl (by (try simp only [List.map_toArray, List.map_cons, List.map_nil]); first | done | (simp only [hji11]; rfl) | rfl | (simp only [List.length_drop, List.length_take]; rfl)) ?_; (with_reducible refine (impl_bit.calls ((Go.bits .andNot .i64 (rd l0 x11_1) (Go.bits .or .i64 a1 (ji11))) == 0) t620 _ A12.out).mono ?_); rintro e w' ⟨rfl, ⟨nd, rfl⟩⟩; refine ⟨_, rfl, ?_⟩))
        go_ret
        exact ⟨by first | rfl | (simp; done) | (simp only [← hji8, ← hji11] <;> (first | rfl | simp)) | (simp [*]; done), by repeat (first | exact Drawn0.refl _ | apply Drawn0.step)⟩
       ·rw [if_neg c9] at H
        have c9b0 : ((Go.bits .and .i64 (ji8) 1) == 1) = false := beq_eq_false_iff_ne.mpr c9
        have c9b1 : ((Go.bits .and .i64 (ji8) 1) != 1) = true := bne_iff_ne.mpr c9
        have H' := Aside0.mk H
        clear H
        have p619 : 0 ≤ (x11_1 : Int) := oda
        have q619 : x11_1 < (l0.length : Int) := oda
        obtain ⟨ad619, e619, hx619_0⟩ := Kd.at_int HR0.out x11_1 p619 q619
        cases e619
        replace p619 := eq_true p619
        replace q619 := eq_true q619
        go_wp2
        go_roundg k1
        case measure => have := HK1.out; omega
        case rel => exact ⟨(wrap64 (x11_1 + 1)), (by first | rfl | (simp; done) | (simp [*]; done)), H', ⟨by have := HK1.out; omega⟩, by repeat (first | exact Drawn0.refl _ | apply Drawn0.step)⟩
      ·rw [if_neg c7] at H
       exact absurd H (by simp)
     ·rw [if_neg c6] at H
      exact absurd H (by simp)
    ·rw [if_neg c5] at H
     exact absurd H (by simp)
   ·rw [if_neg c4] at H
    have c4b0 : decide (x11_1 < (l0.length : Int)) = false := decide_eq_false c4
    clear c4
    obtain rfl := Option.some.inj H
    go_wp2
    go_ret
    exact ⟨by first | rfl | (simp; done) | (simp [*]; done), by repeat (first | exact Drawn0.refl _ | apply Drawn0.step)⟩
/-! ### impl_Sea_areShots: function 86 -/
def impl_Sea_areShots.l0 : Nat → List Int → List (S93) → Int → Int → Int → Int → List Int → Option (Bool)
 | 0, _, _, _, _, _, _, _ => none
 | k + 1, x5, x9, x10, x11, x768000, x768001, x768002 => if x11 < x10 then (if 0 ≤ x11 then (if x11 < (x9.length : Int) then ((impl_within.f ((rd_T93 x9 x11).f1) 0 2).bind fun t773 => (if t773 = true then (if x5.length < 17592186044416 then (impl_Sea_areShots.l0 k (x5 ++ [(rd_T93 x9 x11).f0]) x9 x10 (wrap64 (x11 + 1)) x768000 x768001 x768002) else (none)) else (some false))) else (none)) else (none)) else ((impl_Sea_areCells.f x768000 x768001 x768002 x5).bind fun t777 => (some t777))
def impl_Sea_areShots.f (k : Nat) (a0_0 : Int) (a0_1 : Int) (l0_2 : List Int) (l1 : List (S93)) : Option (Bool) := impl_Sea_areShots.l0 k (([] : List Int)) l1 (l1.length : Int) 0 a0_0 a0_1 l0_2
set_option maxHeartbeats 8000000 in
set_option maxRecDepth 100000 in
theorem impl_Sea_areShots.calls (k : Nat) (a0_0 : Int) (a0_1 : Int) (A0_2 : Option Addr) (c0_2 : Nat) (l0_2 : List Int) (A1 : Option Addr) (c1 : Nat) (l1 : List (S93)) (r : Bool) (w : World) (hr0_2 : Kd.C (Kd.int .i64) w A0_2 l0_2.length l0_2) (hc0_2 : l0_2.length ≤ c0_2) (hr1 : Kd.C k93 w A1 l1.length l1) (hc1 : l1.length ≤ c1) (h : impl_Sea_areShots.f k a0_0 a0_1 l0_2 l1 = some r) :
  Calls Try.prog 86 #[.agg #[.int .i64 a0_0, .int .i64 a0_1, .slice A0_2 l0_2.length c0_2], .slice A1 l1.length c1] w fun e w' => e = .returned (.bool r) ∧ Below w.heap.size w w' := by
 have hu28 := Try.underlying28
 have hu93 := Try.underlying93
 have HR0_2 := Aside0.mk hr0_2
 have HC0_2 := Aside0.mk hc0_2
 clear hr0_2 hc0_2
 have HR1 := Aside0.mk hr1
 have HC1 := Aside0.mk hc1
 clear hr1 hc1
 have HB := Aside0.mk (Below.refl w.heap.size w)
 have H : (impl_Sea_areShots.l0 k (([] : List Int)) l1 (l1.length : Int) 0 a0_0 a0_1 l0_2) = some r := h
 clear h
 obtain ⟨y768, hy768⟩ : ∃ y_ : List Int, y_ = (([] : List Int)) := ⟨_, rfl⟩
 replace H : (impl_Sea_areShots.l0 k y768 l1 (l1.length : Int) 0 a0_0 a0_1 l0_2) = some r := by first | (rw [hy768]; with_reducible exact H) | (have H2_ := (Option.bind_some _ _).symm.trans H; rw [hy768]; with_reducible exact H2_) | (have H2_ := (Option.bind_some _ _).symm.trans H; with_reducible exact H2_) | with_reducible exact H | (rw [hy768]; exact H) | exact H
 have Ny768 := Aside0.mk hy768
 clear hy768
 have H' := Aside0.mk H
 clear H
 go_enter Try.func86, Try.ntmps86
 go_wp2_with (first | ((with_reducible refine gate_dst (N := 2) rfl ?_); refine box_event ?hg (N := 2) ?hd (cs := #[.int .i64 a0_0, .int .i64 a0_1, .slice A0_2 l0_2.length c0_2]) (t := 28) ?hr ?_; (case hd => rfl); (case hg => rfl); (case hr => first | (go_simp; done) | (go_simp; rfl)); intro gb767 hg w3 hbox hb; have n0_ := Aside0.mk (below_step hb_ hb); have n1_ := Aside0.mk (hbox); have n2_ := Aside0.mk ((by rw [hg]; exact (below_size hb_) : w.heap.size ≤ gb767)); have n3_ := Aside0.mk ((by rw [hg]; exact (below_size hb_) : w.heap.size ≤ gb767)); clear HB; have HB := n0_; have BK767 := n1_; have GW767 := n2_; have GE767 := n3_; clear n0_ n1_ n2_ n3_; clear hb hbox hg) | ((with_reducible refine gate_dst (N := 8) rfl ?_); refine Kd.R_lit (Kd.int .i64) _ 2 ?hg (N := 8) ?hd (xs := ([] : List Int)) (inner := []) (ok := fun _ => True) (okp := fun _ => True) ?hr ?hp (fun _ hk => hk) trivial (Below.refl _ _) (Nat.le_refl _) (by simp) ?_; (case hd => rfl); (case hg => rfl); (case hr => first | (go_simp; done) | (go_simp; rfl)); (case hp => exact (Reps.none _ _)); intro v769 w4 ho5 hb hg_ hnew_; clear hg_ hnew_; (first | rw [← Ny768.out] at ho5 | (simp only [Int.reduceToNat] at ho5; rw [← Ny768.out] at ho5)); have n0_ := Aside0.mk (Kd.R_lower ho5 (below_size (by repeat (first | (with_reducible first | exact HB.out | apply below_alloc | apply pw_below_drewN | apply below_drew1 | refine below_set ?_ GE767.out) | exact HB.out)))); have n1_ := Aside0.mk (blk_below (g := gb767) (o := .cells #[.int .i64 a0_0, .int .i64 a0_1, .slice A0_2 l0_2.length c0_2] 28 (0, 0)) (by (with_reducible repeat (first | refine blk_drewN ?_ _ | refine blk_drew ?_ | refine blk_alloc ?_ _)); exact BK767.out) hb); have n2_ := Aside0.mk (below_step (by repeat (first | (with_reducible first | exact HB.out | apply below_alloc | apply pw_below_drewN | apply below_drew1 | refine below_set ?_ GE767.out) | exact HB.out)) hb); clear BK767; clear HB; have HO770 := n0_; have BK767 := n1_; have HB := n2_; clear n0_ n1_ n2_; clear hb ho5))
 go_loopg [5, 11] k (fun kq v5 v11 w' => ∃ (x5_1 : List Int) (x11_1 : Int), v11 = .int .i64 x11_1 ∧ Aside0 (impl_Sea_areShots.l0 kq x5_1 l1 (l1.length : Int) x11_1 a0_0 a0_1 l0_2 = some r) ∧ Aside0 (kq ≤ k) ∧ Aside0 (Kd.R (Kd.int .i64) 2 w' w.heap.size (fun _ => True) v5 x5_1) ∧ Aside0 (w'.heap[gb767]? = some (.cells #[.int .i64 a0_0, .int .i64 a0_1, (.slice A0_2 l0_2.length c0_2)] 28 (0, 0))) ∧ Aside0 (Below w.heap.size w w'))
 case atStart => exact ⟨(y768), (0), (by first | rfl | (simp; done) | (simp [*]; done)), H', ⟨Nat.le_refl _⟩, ⟨by (with_reducible repeat (first | apply Kd.R_alloc | apply Kd.R_drewN | apply Kd.R_drew)); exact HO770.out⟩, ⟨by (with_reducible repeat (first | refine blk_drewN ?_ _ | refine blk_drew ?_ | refine blk_alloc ?_ _)); exact BK767.out⟩, ⟨by repeat (first | (with_reducible first | exact HB.out | apply below_alloc | apply pw_below_drewN | apply below_drew1 | refine below_set ?_ GE767.out) | exact HB.out)⟩⟩
 case round =>
  clear H'
  (try clear c1); (try clear p2)
  obtain ⟨x5_1, x11_1, rfl, HA, HK1, HO_5, BK767, HB⟩ := hrel
  cases gk with
  | zero => exact absurd HA.out (by simp [impl_Sea_areShots.l0])
  | succ k1 =>
   have H := HA.out
   clear HA
   simp only [impl_Sea_areShots.l0] at H
   by_cases c6 : x11_1 < (l1.length : Int)
   ·rw [if_pos c6] at H
    have c6b0 : decide (x11_1 < (l1.length : Int)) = true := decide_eq_true c6
    clear c6
    by_cases c7 : 0 ≤ x11_1
    ·rw [if_pos c7] at H
     have c7b0 : decide (0 ≤ x11_1) = true := decide_eq_true c7
     clear c7
     by_cases c8 : x11_1 < (l1.length : Int)
     ·rw [if_pos c8] at H
      have c8b0 : decide (x11_1 < (l1.length : Int)) = true := decide_eq_true c8
      clear c8
      replace H := Option.bind_eq_some_iff.mp H
      obtain ⟨t773, A90, H⟩ := H
      replace H : (if t773 = true then (if x5_1.length < 17592186044416 then (impl_Sea_areShots.l0 k1 (x5_1 ++ [(rd_T93 l1 x11_1).f0]) l1 (l1.length : Int) (wrap64 (x11_1 + 1)) a0_0 a0_1 l0_2) else (none)) else (some false)) = some r := H
      have A9 := Aside0.mk A90
      clear A90
      by_cases c10 : t773 = true
      ·subst c10
       have H1 : (if x5_1.length < 17592186044416 then (impl_Sea_areShots.l0 k1 (x5_1 ++ [(rd_T93 l1 x11_1).f0]) l1 (l1.length : Int) (wrap64 (x11_1 + 1)) a0_0 a0_1 l0_2) else (none)) = some r := by rw [if_pos rfl] at H; exact H
       clear H
       have H := H1
       clear H1
       by_cases c11 : x5_1.length < 17592186044416
       ·rw [if_pos c11] at H
        have LMc11 := Aside0.mk c11
        clear c11
        obtain ⟨y774, hy774⟩ : ∃ y_ : List Int, y_ = (x5_1 ++ [(rd_T93 l1 x11_1).f0]) := ⟨_, rfl⟩
        replace H : (impl_Sea_areShots.l0 k1 y774 l1 (l1.length : Int) (wrap64 (x11_1 + 1)) a0_0 a0_1 l0_2) = some r := by first | (rw [hy774]; with_reducible exact H) | (have H2_ := (Option.bind_some _ _).symm.trans H; rw [hy774]; with_reducible exact H2_) | (have H2_ := (Option.bind_some _ _).symm.trans H; with_reducible exact H2_) | with_reducible exact H | (rw [hy774]; exact H) | exact H
        have Ny774 := Aside0.mk hy774
        clear hy774
        have H' := Aside0.mk H
        clear H
        have p771 : 0 ≤ (x11_1 : Int) := oda
        have q771 : x11_1 < (l1.length : Int) := oda
        obtain ⟨ad771, e771, hx771_0, hx771_1⟩ := at_T93 HR1.out x11_1 p771 q771
        cases e771
        replace hx771_0 := (HB.out.cell (World.block_lt_of_cell? w _ hx771_0)).trans hx771_0
        replace hx771_1 := (HB.out.cell (World.block_lt_of_cell? w _ hx771_1)).trans hx771_1
        replace p771 := eq_true p771
        replace q771 := eq_true q771
        go_wp2_with (first | ((with_reducible refine gate_dst (N := 7) rfl ?_); refine box_event ?hg (N := 7) ?hd (cs := #[.int .i64 0, .int .i64 0]) (t := 93) ?hr ?_; (case hd => rfl); (case hg => rfl); (case hr => first | (go_simp; done) | (go_simp; rfl)); intro gb772 hg w12 hbox hb; have n0_ := Aside0.mk (Kd.R_below (by (with_reducible repeat (first | apply Kd.R_alloc | apply Kd.R_drewN | apply Kd.R_drew)); exact HO_5.out) hb); have n1_ := Aside0.mk (blk_below (g := gb767) (o := .cells #[.int .i64 a0_0, .int .i64 a0_1, .slice A0_2 l0_2.length c0_2] 28 (0, 0)) (by (with_reducible repeat (first | refine blk_drewN ?_ _ | refine blk_drew ?_ | refine blk_alloc ?_ _)); exact BK767.out) hb); have n2_ := Aside0.mk (below_step (by repeat (first | (with_reducible first | exact HB.out | apply below_alloc | apply pw_below_drewN | apply below_drew1 | refine below_set ?_ GE767.out) | exact HB.out)) hb); have n3_ := Aside0.mk (hbox); have n4_ := Aside0.mk ((by rw [hg]; exact (below_size (by repeat (first | (with_reducible first | exact HB.out | apply below_alloc | apply pw_below_drewN | apply below_drew1 | refine below_set ?_ GE767.out) | exact HB.out))) : w.heap.size ≤ gb772)); have n5_ := Aside0.mk ((by rw [hg]; exact (below_size (by repeat (first | (with_reducible first | exact HB.out | apply below_alloc | apply pw_below_drewN | apply below_drew1 | refine below_set ?_ GE767.out) | exact HB.out))) : w.heap.size ≤ gb772)); have n6_ := Aside0.mk ((by rw [hg]; exact Nat.ne_of_lt (blk_lt (g := gb767) (o := .cells #[.int .i64 a0_0, .int .i64 a0_1, .slice A0_2 l0_2.length c0_2] 28 (0, 0)) (by (with_reducible repeat (first | refine blk_drewN ?_ _ | refine blk_drew ?_ | refine blk_alloc ?_ _)); exact BK767.out)) : gb767 ≠ gb772)); have n7_ := Aside0.mk ((by rw [hg]; exact Nat.ne_of_gt (blk_lt (g := gb767) (o := .cells #[.int .i64 a0_0, .int .i64 a0_1, .slice A0_2 l0_2.length c0_2] 28 (0, 0)) (by (with_reducible repeat (first | refine blk_drewN ?_ _ | refine blk_drew ?_ | refine blk_alloc ?_ _)); exact BK767.out)) : gb772 ≠ gb767)); clear HO_5; clear BK767; clear HB; have HO_5 := n0_; have BK767 := n1_; have HB := n2_; have BK772 := n3_; have GW772 := n4_; have GE772 := n5_; have NB767_772 := n6_; have NB772_767 := n7_; clear n0_ n1_ n2_ n3_ n4_ n5_ n6_ n7_; clear hb hbox hg; have hnb13 := NB772_767.out; have hnc13 := NB767_772.out; have hcz14_0 : w12.cell? ⟨gb772, 0, none⟩ = some (.int .i64 0) := (blk_cell BK772.out 0).trans rfl; have hcz14_1 : w12.cell? ⟨gb772, 1, none⟩ = some (.int .i64 0) := (blk_cell BK772.out 1).trans rfl; have hfz14_0 := blk_frozen BK772.out 0; have hfz14_1 := blk_frozen BK772.out 1) | ((with_reducible refine gate_callee (f := 60) rfl ?_); refine goesA_ (some 17) rfl rfl Try.func60 (by kernel_rfl) rfl #[.int .i64 ((rd_T93 l1 x11_1).f1), .int .i64 0, .int .i64 2] rfl ?_; (with_reducible refine (impl_within.calls ((rd_T93 l1 x11_1).f1) 0 2 true _ A9.out).mono ?_); rintro e w' ⟨rfl, ⟨nd, rfl⟩⟩; refine ⟨_, rfl, ?_⟩) | ((with_reducible refine gate_builtin (b := .append) (xs := #[.tmp 19, .tmp 22]) rfl ?_); at_builtin; refine Kd.R_append (Kd.int .i64) (w0 := w) w.heap.size rfl (.tmp 19) (.tmp 22) 22 2 (.int .i64 0) 8 rfl Try.underlying22 info2 rfl (by decide) (by omega) u5 x5_1 ((rd_T93 l1 x11_1).f0) [.int .i64 ((rd_T93 l1 x11_1).f0)] (fun _ => True) (fun _ => False) rfl (by first | (go_simp; done) | (go_simp; rfl)) ?aP (fun _ hk => hk.elim) ?aF ?aO ?aB ?aS ?aL ?_; (case aP => exact rfl); (case aB => exact (by repeat (first | (with_reducible first | exact HB.out | apply below_alloc | apply pw_below_drewN | apply below_drew1 | refine below_set ?_ GE767.out | refine below_set ?_ GE772.out) | exact HB.out))); (case aF => exact (fun _ _ => trivial)); (case aO => exact (by (with_reducible repeat (first | apply Kd.R_alloc | apply Kd.R_drewN | apply Kd.R_drew)); exact Kd.R_mono (Kd.R_far (p := ⟨gb772, 1, none⟩) (Kd.R_far (p := ⟨gb772, 0, none⟩) (Kd.R_types HO_5.out BK772.out (by decide)) (fun _ hk => hk.2) (.int .i64 ((rd_T93 l1 x11_1).f0))) (fun _ hk => hk.2) (.int .i64 ((rd_T93 l1 x11_1).f1))) (fun _ hk => trivial))); (case aS => exact (below_size (by repeat (first | (with_reducible first | exact HB.out | apply below_alloc | apply pw_below_drewN | apply below_drew1 | refine below_set ?_ GE767.out | refine below_set ?_ GE772.out) | exact HB.out)))); (case aL => have := LMc11.out; omega); intro v775 w15 ho hb hg hat; rw [← Ny774.out] at ho; have n0_ := Aside0.mk (blk_grown (g := gb767) (o := .cells #[.int .i64 a0_0, .int .i64 a0_1, .slice A0_2 l0_2.length c0_2] 28 (0, 0)) (by (with_reducible repeat (first | refine blk_drewN ?_ _ | refine blk_drew ?_ | refine blk_alloc ?_ _)); refine blk_far ?_ NB767_772.out _; (with_reducible repeat (first | refine blk_drewN ?_ _ | refine blk_drew ?_ | refine blk_alloc ?_ _)); refine blk_far ?_ NB767_772.out _; (with_reducible repeat (first | refine blk_drewN ?_ _ | refine blk_drew ?_ | refine blk_alloc ?_ _)); exact BK767.out) hg (Kd.R_ne HO_5.out BK767.out (by decide))); have n1_ := Aside0.mk (blk_grown (g := gb772) (o := .cells #[.int .i64 ((rd_T93 l1 x11_1).f0), .int .i64 ((rd_T93 l1 x11_1).f1)] 93 (0, 0)) (by (with_reducible repeat (first | refine blk_drewN ?_ _ | refine blk_drew ?_ | refine blk_alloc ?_ _)); refine blk_put (cs := #[.int .i64 ((rd_T93 l1 x11_1).f0), .int .i64 0]) ?_ 1 _ rfl; (with_reducible repeat (first | refine blk_drewN ?_ _ | refine blk_drew ?_ | refine blk_alloc ?_ _)); refine blk_put (cs := #[.int .i64 0, .int .i64 0]) ?_ 0 _ rfl; (with_reducible repeat (first | refine blk_drewN ?_ _ | refine blk_drew ?_ | refine blk_alloc ?_ _)); exact BK772.out) hg (Kd.R_ne HO_5.out BK772.out (by decide))); have n2_ := Aside0.mk (hb); have n3_ := Aside0.mk (ho); clear BK767; clear BK772; clear HB; clear HO_5; have BK767 := n0_; have BK772 := n1_; have HB := n2_; have HO776 := n3_; clear n0_ n1_ n2_ n3_; clear ho hb hg hat))
        go_roundg k1
        case measure => have := HK1.out; omega
        case rel => exact ⟨(y774), (wrap64 (x11_1 + 1)), (by first | rfl | (simp; done) | (simp [*]; done)), H', ⟨by have := HK1.out; omega⟩, ⟨by (with_reducible repeat (first | apply Kd.R_alloc | apply Kd.R_drewN | apply Kd.R_drew)); exact HO776.out⟩, ⟨by (with_reducible repeat (first | refine blk_drewN ?_ _ | refine blk_drew ?_ | refine blk_alloc ?_ _)); exact BK767.out⟩, ⟨by repeat (first | (with_reducible first | exact HB.out | apply below_alloc | apply pw_below_drewN | apply below_drew1 | refine below_set ?_ GE767.out | refine below_set ?_ GE772.out) | exact HB.out)⟩⟩
       ·rw [if_neg c11] at H
        exact absurd H (by simp)
      ·replace c10 := Bool.eq_false_iff.mpr c10
       subst c10
       have H1 : (some false) = some r := by rw [if_neg (show ¬ (false = true) by decide)] at H; exact H
       clear H
       have H := H1
       clear H1
       obtain rfl := Option.some.inj H
       have p771 : 0 ≤ (x11_1 : Int) := oda
       have q771 : x11_1 < (l1.length : Int) := oda
       obtain ⟨ad771, e771, hx771_0, hx771_1⟩ := at_T93 HR1.out x11_1 p771 q771
       cases e771
       replace hx771_0 := (HB.out.cell (World.block_lt_of_cell? w _ hx771_0)).trans hx771_0
       replace hx771_1 := (HB.out.cell (World.block_lt_of_cell? w _ hx771_1)).trans hx771_1
       replace p771 := eq_true p771
       replace q771 := eq_true q771
       go_wp2_with (first | ((with_reducible refine gate_dst (N := 7) rfl ?_); refine box_event ?hg (N := 7) ?hd (cs := #[.int .i64 0, .int .i64 0]) (t := 93) ?hr ?_; (case hd => rfl); (case hg => rfl); (case hr => first | (go_simp; done) | (go_simp; rfl)); intro gb772 hg w16 hbox hb; have n0_ := Aside0.mk (Kd.R_below (by (with_reducible repeat (first | apply Kd.R_alloc | apply Kd.R_drewN | apply Kd.R_drew)); exact HO_5.out) hb); have n1_ := Aside0.mk (blk_below (g := gb767) (o := .cells #[.int .i64 a0_0, .int .i64 a0_1, .slice A0_2 l0_2.length c0_2] 28 (0, 0)) (by (with_reducible repeat (first | refine blk_drewN ?_ _ | refine blk_drew ?_ | refine blk_alloc ?_ _)); exact BK767.out) hb); have n2_ := Aside0.mk (below_step (by repeat (first | (with_reducible first | exact HB.out | apply below_alloc | apply pw_below_drewN | apply below_drew1 | refine below_set ?_ GE767.out) | exact HB.out)) hb); have n3_ := Aside0.mk (hbox); have n4_ := Aside0.mk ((by rw [hg]; exact (below_size (by repeat (first | (with_reducible first | exact HB.out | apply below_alloc | apply pw_below_drewN | apply below_drew1 | refine below_set ?_ GE767.out) | exact HB.out))) : w.heap.size ≤ gb772)); have n5_ := Aside0.mk ((by rw [hg]; exact (below_size (by repeat (first | (with_reducible first | exact HB.out | apply below_alloc | apply pw_below_drewN | apply below_drew1 | refine below_set ?_ GE767.out) | exact HB.out))) : w.heap.size ≤ gb772)); have n6_ := Aside0.mk ((by rw [hg]; exact Nat.ne_of_lt (blk_lt (g := gb767) (o := .cells #[.int .i64 a0_0, .int .i64 a0_1, .slice A0_2 l0_2.length c0_2] 28 (0, 0)) (by (with_reducible repeat (first | refine blk_drewN ?_ _ | refine blk_drew ?_ | refine blk_alloc ?_ _)); exact BK767.out)) : gb767 ≠ gb772)); have n7_ := Aside0.mk ((by rw [hg]; exact Nat.ne_of_gt (blk_lt (g := gb767) (o := .cells #[.int .i64 a0_0, .int .i64 a0_1, .slice A0_2 l0_2.length c0_2] 28 (0, 0)) (by (with_reducible repeat (first | refine blk_drewN ?_ _ | refine blk_drew ?_ | refine blk_alloc ?_ _)); exact BK767.out)) : gb772 ≠ gb767)); clear HO_5; clear BK767; clear HB; have HO_5 := n0_; have BK767 := n1_; have HB := n2_; have BK772 := n3_; have GW772 := n4_; have GE772 := n5_; have NB767_772 := n6_; have NB772_767 := n7_; clear n0_ n1_ n2_ n3_ n4_ n5_ n6_ n7_; clear hb hbox hg; have hnb17 := NB772_767.out; have hnc17 := NB767_772.out; have hcz18_0 : w16.cell? ⟨gb772, 0, none⟩ = some (.int .i64 0) := (blk_cell BK772.out 0).trans rfl; have hcz18_1 : w16.cell? ⟨gb772, 1, none⟩ = some (.int .i64 0) := (blk_cell BK772.out 1).trans rfl; have hfz18_0 := blk_frozen BK772.out 0; have hfz18_1 := blk_frozen BK772.out 1) | ((with_reducible refine gate_callee (f := 60) rfl ?_); refine goesA_ (some 17) rfl rfl Try.func60 (by kernel_rfl) rfl #[.int .i64 ((rd_T93 l1 x11_1).f1), .int .i64 0, .int .i64 2] rfl ?_; (with_reducible refine (impl_within.calls ((rd_T93 l1 x11_1).f1) 0 2 false _ A9.out).mono ?_); rintro e w' ⟨rfl, ⟨nd, rfl⟩⟩; refine ⟨_, rfl, ?_⟩))
       go_ret
       exact ⟨by first | rfl | (simp [errW_none, errW_some] <;> rfl) | (simp [*, errW_none, errW_some] <;> rfl), by repeat (first | (with_reducible first | exact HB.out | apply below_alloc | apply pw_below_drewN | apply below_drew1 | refine below_set ?_ GE767.out | refine below_set ?_ GE772.out) | exact HB.out)⟩
     ·rw [if_neg c8] at H
      exact absurd H (by simp)
    ·rw [if_neg c7] at H
     exact absurd H (by simp)
   ·rw [if_neg c6] at H
    have c6b0 : decide (x11_1 < (l1.length : Int)) = false := decide_eq_false c6
    clear c6
    replace H := Option.bind_eq_some_iff.mp H
    obtain ⟨t777, A190, H⟩ := H
    replace H : (some t777) = some r := H
    have A19 := Aside0.mk A190
    clear A190
    obtain rfl := Option.some.inj H
    have hcz20_0 : wr.cell? ⟨gb767, 0, none⟩ = some (.int .i64 a0_0) := (blk_cell BK767.out 0).trans rfl
    have hcz20_1 : wr.cell? ⟨gb767, 1, none⟩ = some (.int .i64 a0_1) := (blk_cell BK767.out 1).trans rfl
    have hcz20_2 : wr.cell? ⟨gb767, 2, none⟩ = some (.slice A0_2 l0_2.length c0_2) := (blk_cell BK767.out 2).trans rfl
    have hfz20_0 := blk_frozen BK767.out 0
    have hfz20_1 := blk_frozen BK767.out 1
    have hfz20_2 := blk_frozen BK767.out 2
    obtain ⟨Ao21, co21, eo21⟩ := Kd.R_slice HO_5.out
    subst eo21
    go_wp2_with (first | ((with_reducible refine gate_callee (f := 107) rfl ?_); refine goesA_ (some 27) rfl rfl Try.func107 (by kernel_rfl) rfl #[.agg #[.int .i64 a0_0, .int .i64 a0_1, .slice A0_2 l0_2.length c0_2], .slice Ao21 x5_1.length co21] rfl ?_; (with_reducible refine (impl_Sea_areCells.calls a0_0 a0_1 _ _ l0_2 _ _ x5_1 t777 _ ?side1 ?side2 ?side3 ?side4 A19.out).mono ?_); (case side1 => repeat (first | exact (Kd.C_below HR0_2.out HB.out) | (with_reducible refine Kd.C_alloc ?_ _) | (with_reducible refine Kd.C_drewN ?_ _) | (with_reducible refine Kd.C_drew ?_))); (case side2 => exact HC0_2.out); (case side3 => repeat (first | exact (Kd.R_reads' HO_5.out).2.2 | (with_reducible refine Kd.C_alloc ?_ _) | (with_reducible refine Kd.C_drewN ?_ _) | (with_reducible refine Kd.C_drew ?_))); (case side4 => exact (Kd.R_reads' HO_5.out).2.1); rintro e w22 ⟨rfl, hb⟩; refine ⟨_, rfl, ?_⟩; have n0_ := Aside0.mk (Kd.R_below (by (with_reducible repeat (first | apply Kd.R_alloc | apply Kd.R_drewN | apply Kd.R_drew)); exact HO_5.out) hb); have n1_ := Aside0.mk (blk_below (g := gb767) (o := .cells #[.int .i64 a0_0, .int .i64 a0_1, .slice A0_2 l0_2.length c0_2] 28 (0, 0)) (by (with_reducible repeat (first | refine blk_drewN ?_ _ | refine blk_drew ?_ | refine blk_alloc ?_ _)); exact BK767.out) hb); have n2_ := Aside0.mk (below_step (by repeat (first | (with_reducible first | exact HB.out | apply below_alloc | apply pw_below_drewN | apply below_drew1 | refine below_set ?_ GE767.out) | exact HB.out)) hb); clear HO_5; clear BK767; clear HB; have HO_5 := n0_; have BK767 := n1_; have HB := n2_; clear n0_ n1_ n2_; (try clear hb); (try clear hb2); (try clear hk); (try clear hi)))
    go_ret
    exact ⟨by first | rfl | (simp [errW_none, errW_some] <;> rfl) | (simp [*, errW_none, errW_some] <;> rfl), by repeat (first | (with_reducible first | exact HB.out | apply below_alloc | apply pw_below_drewN | apply below_drew1 | refine below_set ?_ GE767.out) | exact HB.out)⟩
/-! ### impl_agrees: function 87 -/
def impl_agrees.l0 : Nat → List Int → Int → List (S93) → Int → Int → Option (Bool)
 | 0, _, _, _, _, _ => none
 | k + 1, x0, x5, x8, x9, x10 => if x10 < x9 then (if 0 ≤ x10 then (if x10 < (x8.length : Int) then ((impl_answer.f k x0 x5 ((rd_T93 x8 x10).f0)).bind fun t780 => (if t780 = ((rd_T93 x8 x10).f1) then (if 0 ≤ ((rd_T93 x8 x10).f0) then (impl_agrees.l0 k x0 (Go.bits .or .i64 x5 (shl .i64 1 ((rd_T93 x8 x10).f0))) x8 x9 (wrap64 (x10 + 1))) else (none)) else (some false))) else (none)) else (none)) else (some true)
def impl_agrees.f (k : Nat) (l0 : List Int) (l1 : List (S93)) : Option (Bool) := impl_agrees.l0 k l0 0 l1 (l1.length : Int) 0
set_option maxHeartbeats 8000000 in
set_option maxRecDepth 100000 in
theorem impl_agrees.calls (k : Nat) (A0 : Option Addr) (c0 : Nat) (l0 : List Int) (A1 : Option Addr) (c1 : Nat) (l1 : List (S93)) (r : Bool) (w : World) (hr0 : Kd.C (Kd.int .i64) w A0 l0.length l0) (hc0 : l0.length ≤ c0) (hr1 : Kd.C k93 w A1 l1.length l1) (hc1 : l1.length ≤ c1) (h : impl_agrees.f k l0 l1 = some r) :
  Calls Try.prog 87 #[.slice A0 l0.length c0, .slice A1 l1.length c1] w fun e w' => e = .returned (.bool r) ∧ Below w.heap.size w w' := by
 have hu93 := Try.underlying93
 have HR0 := Aside0.mk hr0
 have HC0 := Aside0.mk hc0
 clear hr0 hc0
 have HR1 := Aside0.mk hr1
 have HC1 := Aside0.mk hc1
 clear hr1 hc1
 have HB := Aside0.mk (Below.refl w.heap.size w)
 have H : (impl_agrees.l0 k l0 0 l1 (l1.length : Int) 0) = some r := h
 clear h
 have H' := Aside0.mk H
 clear H
 go_enter Try.func87, Try.ntmps87
 go_wp2
 repeat (go_quiet (fail); try go_wp2)
 go_loopg [5, 10] k (fun kq v5 v10 w' => ∃ (x5_1 : Int) (x10_1 : Int), v5 = .int .i64 x5_1 ∧ v10 = .int .i64 x10_1 ∧ Aside0 (impl_agrees.l0 kq l0 x5_1 l1 (l1.length : Int) x10_1 = some r) ∧ Aside0 (kq ≤ k) ∧ Aside0 (Below w.heap.size w w'))
 case atStart => exact ⟨(0), (0), (by first | rfl | (simp; done) | (simp [*]; done)), (by first | rfl | (simp; done) | (simp [*]; done)), H', ⟨Nat.le_refl _⟩, ⟨by repeat (first | (with_reducible first | exact HB.out | apply below_alloc | apply pw_below_drewN | apply below_drew1) | exact HB.out)⟩⟩
 case round =>
  clear H'
  (try clear c1); (try clear p2)
  obtain ⟨x5_1, x10_1, rfl, rfl, HA, HK1, HB⟩ := hrel
  cases gk with
  | zero => exact absurd HA.out (by simp [impl_agrees.l0])
  | succ k1 =>
   have H := HA.out
   clear HA
   simp only [impl_agrees.l0] at H
   by_cases c3 : x10_1 < (l1.length : Int)
   ·rw [if_pos c3] at H
    have c3b0 : decide (x10_1 < (l1.length : Int)) = true := decide_eq_true c3
    clear c3
    by_cases c4 : 0 ≤ x10_1
    ·rw [if_pos c4] at H
     have c4b0 : decide (0 ≤ x10_1) = true := decide_eq_true c4
     clear c4
     by_cases c5 : x10_1 < (l1.length : Int)
     ·rw [if_pos c5] at H
      have c5b0 : decide (x10_1 < (l1.length : Int)) = true := decide_eq_true c5
      clear c5
      replace H := Option.bind_eq_some_iff.mp H
      obtain ⟨t780, A60, H⟩ := H
      replace H : (if t780 = ((rd_T93 l1 x10_1).f1) then (if 0 ≤ ((rd_T93 l1 x10_1).f0) then (impl_agrees.l0 k1 l0 (Go.bits .or .i64 x5_1 (shl .i64 1 ((rd_T93 l1 x10_1).f0))) l1 (l1.length : Int) (wrap64 (x10_1 + 1))) else (none)) else (some false)) = some r := H
      have A6 := Aside0.mk A60
      clear A60
      by_cases c7 : t780 = ((rd_T93 l1 x10_1).f1)
      ·rw [if_pos c7] at H
       have c7b0 : (t780 == ((rd_T93 l1 x10_1).f1)) = true := beq_iff_eq.mpr c7
       have c7b1 : (t780 != ((rd_T93 l1 x10_1).f1)) = false := bne_eq_false_iff_eq.mpr c7
       clear c7
       by_cases c8 : 0 ≤ ((rd_T93 l1 x10_1).f0)
       ·rw [if_pos c8] at H
        have c8b0 := eq_true c8
        have c8b1 : decide (0 ≤ ((rd_T93 l1 x10_1).f0)) = true := decide_eq_true c8
        clear c8
        obtain ⟨ji9, hji9⟩ : ∃ j_ : Int, (shl .i64 1 ((rd_T93 l1 x10_1).f0)) = j_ := ⟨_, rfl⟩
        replace H : (impl_agrees.l0 k1 l0 (Go.bits .or .i64 x5_1 (ji9)) l1 (l1.length : Int) (wrap64 (x10_1 + 1))) = some r := by first | (rw [hji9] at H; exact H) | (simp only [hji9] at H ⊢; exact H)
        (try rw [hji9] at A6)
        have hji9_ : (IntKind.i64.wrap (1 * 2 ^ min ((rd_T93 l1 x10_1).f0).toNat 64)) = ji9 := hji9
        have hji9z : ((rd_T93 l1 x10_1).f0) ≤ 64 → (IntKind.i64.wrap (1 * 2 ^ ((rd_T93 l1 x10_1).f0).toNat)) = ji9 := shl_small hji9
        have hji9u : (IntKind.i64.wrap (2 ^ min ((rd_T93 l1 x10_1).f0).toNat 64)) = ji9 := by have h_ := hji9_; rw [Int.one_mul] at h_; exact h_
        have hji9v : ((rd_T93 l1 x10_1).f0) ≤ 64 → (IntKind.i64.wrap (2 ^ ((rd_T93 l1 x10_1).f0).toNat)) = ji9 := fun hle_ => by have h_ := hji9z hle_; rw [Int.one_mul] at h_; exact h_
        have hji9y : (wrap64 (1 * 2 ^ min ((rd_T93 l1 x10_1).f0).toNat 64)) = ji9 := (i64_w _).symm.trans hji9_
        have hji9x : ((rd_T93 l1 x10_1).f0) ≤ 64 → (wrap64 (1 * 2 ^ ((rd_T93 l1 x10_1).f0).toNat)) = ji9 := fun h_ => (i64_w _).symm.trans (hji9z h_)
        have H' := Aside0.mk H
        clear H
        have p778 : 0 ≤ (x10_1 : Int) := oda
        have q778 : x10_1 < (l1.length : Int) := oda
        obtain ⟨ad778, e778, hx778_0, hx778_1⟩ := at_T93 HR1.out x10_1 p778 q778
        cases e778
        replace hx778_0 := (HB.out.cell (World.block_lt_of_cell? w _ hx778_0)).trans hx778_0
        replace hx778_1 := (HB.out.cell (World.block_lt_of_cell? w _ hx778_1)).trans hx778_1
        replace p778 := eq_true p778
        replace q778 := eq_true q778
        go_wp2_with (first | ((with_reducible refine gate_dst (N := 7) rfl ?_); refine box_event ?hg (N := 7) ?hd (cs := #[.int .i64 0, .int .i64 0]) (t := 93) ?hr ?_; (case hd => rfl); (case hg => rfl); (case hr => first | (go_simp; done) | (go_simp; rfl)); intro gb779 hg w10 hbox hb; have n0_ := Aside0.mk (below_step hb_ hb); have n1_ := Aside0.mk (hbox); have n2_ := Aside0.mk ((by rw [hg]; exact (below_size hb_) : w.heap.size ≤ gb779)); have n3_ := Aside0.mk ((by rw [hg]; exact (below_size hb_) : w.heap.size ≤ gb779)); clear HB; have HB := n0_; have BK779 := n1_; have GW779 := n2_; have GE779 := n3_; clear n0_ n1_ n2_ n3_; clear hb hbox hg; have hcz11_0 : w10.cell? ⟨gb779, 0, none⟩ = some (.int .i64 0) := (blk_cell BK779.out 0).trans rfl; have hcz11_1 : w10.cell? ⟨gb779, 1, none⟩ = some (.int .i64 0) := (blk_cell BK779.out 1).trans rfl; have hfz11_0 := blk_frozen BK779.out 0; have hfz11_1 := blk_frozen BK779.out 1) | (go_at_call 78; (with_reducible refine (impl_answer.calls k1 _ _ l0 x5_1 ((rd_T93 l1 x10_1).f0) t780 _ ?side1 ?side2 A6.out).mono ?_); (case side1 => exact Kd.C_below HR0.out (by repeat (first | (with_reducible first | exact HB.out | apply below_alloc | apply pw_below_drewN | apply below_drew1 | refine below_set ?_ GE779.out) | exact HB.out))); (case side2 => exact HC0.out); rintro e w' ⟨rfl, ⟨nd, rfl⟩⟩; (try first | exact ⟨rfl, _, World.drewN_drewN _ _ _⟩ | exact ⟨rfl, _, Eq.trans (World.drewN_drewN _ _ _) (congrArg (World.drewN _) (Nat.add_assoc _ _ _))⟩)))
        repeat (go_quiet (first | ((with_reducible refine gate_dst (N := 7) rfl ?_); refine box_event ?hg (N := 7) ?hd (cs := #[.int .i64 0, .int .i64 0]) (t := 93) ?hr ?_; (case hd => rfl); (case hg => rfl); (case hr => first | (go_simp; done) | (go_simp; rfl)); intro gb779 hg w10 hbox hb; have n0_ := Aside0.mk (below_step hb_ hb); have n1_ := Aside0.mk (hbox); have n2_ := Aside0.mk ((by rw [hg]; exact (below_size hb_) : w.heap.size ≤ gb779)); have n3_ := Aside0.mk ((by rw [hg]; exact (below_size hb_) : w.heap.size ≤ gb779)); clear HB; have HB := n0_; have BK779 := n1_; have GW779 := n2_; have GE779 := n3_; clear n0_ n1_ n2_ n3_; clear hb hbox hg; have hcz11_0 : w10.cell? ⟨gb779, 0, none⟩ = some (.int .i64 0) := (blk_cell BK779.out 0).trans rfl; have hcz11_1 : w10.cell? ⟨gb779, 1, none⟩ = some (.int .i64 0) := (blk_cell BK779.out 1).trans rfl; have hfz11_0 := blk_frozen BK779.out 0; have hfz11_1 := blk_frozen BK779.out 1) | (go_at_call 78; (with_reducible refine (impl_answer.calls k1 _ _ l0 x5_1 ((rd_T93 l1 x10_1).f0) t780 _ ?side1 ?side2 A6.out).mono ?_); (case side1 => exact Kd.C_below HR0.out (by repeat (first | (with_reducible first | exact HB.out | apply below_alloc | apply pw_below_drewN | apply below_drew1 | refine below_set ?_ GE779.out) | exact HB.out))); (case side2 => exact HC0.out); rintro e w' ⟨rfl, ⟨nd, rfl⟩⟩; (try first | exact ⟨rfl, _, World.drewN_drewN _ _ _⟩ | exact ⟨rfl, _, Eq.trans (World.drewN_drewN _ _ _) (congrArg (World.drewN _) (Nat.add_assoc _ _ _))⟩))); try go_wp2_with (first | ((with_reducible refine gate_dst (N := 7) rfl ?_); refine box_event ?hg (N := 7) ?hd (cs := #[.int .i64 0, .int .i64 0]) (t := 93) ?hr ?_; (case hd => rfl); (case hg => rfl); (case hr => first | (go_simp; done) | (go_simp; rfl)); intro gb779 hg w10 hbox hb; have n0_ := Aside0.mk (below_step hb_ hb); have n1_ := Aside0.mk (hbox); have n2_ := Aside0.mk ((by rw [hg]; exact (below_size hb_) : w.heap.size ≤ gb779)); have n3_ := Aside0.mk ((by rw [hg]; exact (below_size hb_) : w.heap.size ≤ gb779)); clear HB; have HB := n0_; have BK779 := n1_; have GW779 := n2_; have GE779 := n3_; clear n0_ n1_ n2_ n3_; clear hb hbox hg; have hcz11_0 : w10.cell? ⟨gb779, 0, none⟩ = some (.int .i64 0) := (blk_cell BK779.out 0).trans rfl; have hcz11_1 : w10.cell? ⟨gb779, 1, none⟩ = some (.int .i64 0) := (blk_cell BK779.out 1).trans rfl; have hfz11_0 := blk_frozen BK779.out 0; have hfz11_1 := blk_frozen BK779.out 1) | (go_at_call 78; (with_reducible refine (impl_answer.calls k1 _ _ l0 x5_1 ((rd_T93 l1 x10_1).f0) t780 _ ?side1 ?side2 A6.out).mono ?_); (case side1 => exact Kd.C_below HR0.out (by repeat (first | (with_reducible first | exact HB.out | apply below_alloc | apply pw_below_drewN | apply below_drew1 | refine below_set ?_ GE779.out) | exact HB.out))); (case side2 => exact HC0.out); rintro e w' ⟨rfl, ⟨nd, rfl⟩⟩; (try first | exact ⟨rfl, _, World.drewN_drewN _ _ _⟩ | exact ⟨rfl, _, Eq.trans (World.drewN_drewN _ _ _) (congrArg (World.drewN _) (Nat.add_assoc _ _ _))⟩))))
        go_roundg k1
        case measure => have := HK1.out; omega
        case rel => exact ⟨(Go.bits .or .i64 x5_1 (ji9)), (wrap64 (x10_1 + 1)), (by first | rfl | (simp; done) | (simp only [← hji9] <;> (first | rfl | simp)) | (simp [*]; done)), (by first | rfl | (simp; done) | (simp [*]; done)), H', ⟨by have := HK1.out; omega⟩, ⟨by repeat (first | (with_reducible first | exact HB.out | apply below_alloc | apply pw_below_drewN | apply below_drew1 | refine below_set ?_ GE779.out) | exact HB.out)⟩⟩
       ·rw [if_neg c8] at H
        exact absurd H (by simp)
      ·rw [if_neg c7] at H
       have c7b0 : (t780 == ((rd_T93 l1 x10_1).f1)) = false := beq_eq_false_iff_ne.mpr c7
       have c7b1 : (t780 != ((rd_T93 l1 x10_1).f1)) = true := bne_iff_ne.mpr c7
       obtain rfl := Option.some.inj H
       have p778 : 0 ≤ (x10_1 : Int) := oda
       have q778 : x10_1 < (l1.length : Int) := oda
       obtain ⟨ad778, e778, hx778_0, hx778_1⟩ := at_T93 HR1.out x10_1 p778 q778
       cases e778
       replace hx778_0 := (HB.out.cell (World.block_lt_of_cell? w _ hx778_0)).trans hx778_0
       replace hx778_1 := (HB.out.cell (World.block_lt_of_cell? w _ hx778_1)).trans hx778_1
       replace p778 := eq_true p778
       replace q778 := eq_true q778
       go_wp2_with (first | ((with_reducible refine gate_dst (N := 7) rfl ?_); refine box_event ?hg (N := 7) ?hd (cs := #[.int .i64 0, .int .i64 0]) (t := 93) ?hr ?_; (case hd => rfl); (case hg => rfl); (case hr => first | (go_simp; done) | (go_simp; rfl)); intro gb779 hg w12 hbox hb; have n0_ := Aside0.mk (below_step hb_ hb); have n1_ := Aside0.mk (hbox); have n2_ := Aside0.mk ((by rw [hg]; exact (below_size hb_) : w.heap.size ≤ gb779)); have n3_ := Aside0.mk ((by rw [hg]; exact (below_size hb_) : w.heap.size ≤ gb779)); clear HB; have HB := n0_; have BK779 := n1_; have GW779 := n2_; have GE779 := n3_; clear n0_ n1_ n2_ n3_; clear hb hbox hg; have hcz13_0 : w12.cell? ⟨gb779, 0, none⟩ = some (.int .i64 0) := (blk_cell BK779.out 0).trans rfl; have hcz13_1 : w12.cell? ⟨gb779, 1, none⟩ = some (.int .i64 0) := (blk_cell BK779.out 1).trans rfl; have hfz13_0 := blk_frozen BK779.out 0; have hfz13_1 := blk_frozen BK779.out 1) | (go_at_call 78; (with_reducible refine (impl_answer.calls k1 _ _ l0 x5_1 ((rd_T93 l1 x10_1).f0) t780 _ ?side1 ?side2 A6.out).mono ?_); (case side1 => exact Kd.C_below HR0.out (by repeat (first | (with_reducible first | exact HB.out | apply below_alloc | apply pw_below_drewN | apply below_drew1 | refine below_set ?_ GE779.out) | exact HB.out))); (case side2 => exact HC0.out); rintro e w' ⟨rfl, ⟨nd, rfl⟩⟩; (try first | exact ⟨rfl, _, World.drewN_drewN _ _ _⟩ | exact ⟨rfl, _, Eq.trans (World.drewN_drewN _ _ _) (congrArg (World.drewN _) (Nat.add_assoc _ _ _))⟩)))
       repeat (go_quiet (first | ((with_reducible refine gate_dst (N := 7) rfl ?_); refine box_event ?hg (N := 7) ?hd (cs := #[.int .i64 0, .int .i64 0]) (t := 93) ?hr ?_; (case hd => rfl); (case hg => rfl); (case hr => first | (go_simp; done) | (go_simp; rfl)); intro gb779 hg w12 hbox hb; have n0_ := Aside0.mk (below_step hb_ hb); have n1_ := Aside0.mk (hbox); have n2_ := Aside0.mk ((by rw [hg]; exact (below_size hb_) : w.heap.size ≤ gb779)); have n3_ := Aside0.mk ((by rw [hg]; exact (below_size hb_) : w.heap.size ≤ gb779)); clear HB; have HB := n0_; have BK779 := n1_; have GW779 := n2_; have GE779 := n3_; clear n0_ n1_ n2_ n3_; clear hb hbox hg; have hcz13_0 : w12.cell? ⟨gb779, 0, none⟩ = some (.int .i64 0) := (blk_cell BK779.out 0).trans rfl; have hcz13_1 : w12.cell? ⟨gb779, 1, none⟩ = some (.int .i64 0) := (blk_cell BK779.out 1).trans rfl; have hfz13_0 := blk_frozen BK779.out 0; have hfz13_1 := blk_frozen BK779.out 1) | (go_at_call 78; (with_reducible refine (impl_answer.calls k1 _ _ l0 x5_1 ((rd_T93 l1 x10_1).f0) t780 _ ?side1 ?side2 A6.out).mono ?_); (case side1 => exact Kd.C_below HR0.out (by repeat (first | (with_reducible first | exact HB.out | apply below_alloc | apply pw_below_drewN | apply below_drew1 | refine below_set ?_ GE779.out) | exact HB.out))); (case side2 => exact HC0.out); rintro e w' ⟨rfl, ⟨nd, rfl⟩⟩; (try first | exact ⟨rfl, _, World.drewN_drewN _ _ _⟩ | exact ⟨rfl, _, Eq.trans (World.drewN_drewN _ _ _) (congrArg (World.drewN _) (Nat.add_assoc _ _ _))⟩))); try go_wp2_with (first | ((with_reducible refine gate_dst (N := 7) rfl ?_); refine box_event ?hg (N := 7) ?hd (cs := #[.int .i64 0, .int .i64 0]) (t := 93) ?hr ?_; (case hd => rfl); (case hg => rfl); (case hr => first | (go_simp; done) | (go_simp; rfl)); intro gb779 hg w12 hbox hb; have n0_ := Aside0.mk (below_step hb_ hb); have n1_ := Aside0.mk (hbox); have n2_ := Aside0.mk ((by rw [hg]; exact (below_size hb_) : w.heap.size ≤ gb779)); have n3_ := Aside0.mk ((by rw [hg]; exact (below_size hb_) : w.heap.size ≤ gb779)); clear HB; have HB := n0_; have BK779 := n1_; have GW779 := n2_; have GE779 := n3_; clear n0_ n1_ n2_ n3_; clear hb hbox hg; have hcz13_0 : w12.cell? ⟨gb779, 0, none⟩ = some (.int .i64 0) := (blk_cell BK779.out 0).trans rfl; have hcz13_1 : w12.cell? ⟨gb779, 1, none⟩ = some (.int .i64 0) := (blk_cell BK779.out 1).trans rfl; have hfz13_0 := blk_frozen BK779.out 0; have hfz13_1 := blk_frozen BK779.out 1) | (go_at_call 78; (with_reducible refine (impl_answer.calls k1 _ _ l0 x5_1 ((rd_T93 l1 x10_1).f0) t780 _ ?side1 ?side2 A6.out).mono ?_); (case side1 => exact Kd.C_below HR0.out (by repeat (first | (with_reducible first | exact HB.out | apply below_alloc | apply pw_below_drewN | apply below_drew1 | refine below_set ?_ GE779.out) | exact HB.out))); (case side2 => exact HC0.out); rintro e w' ⟨rfl, ⟨nd, rfl⟩⟩; (try first | exact ⟨rfl, _, World.drewN_drewN _ _ _⟩ | exact ⟨rfl, _, Eq.trans (World.drewN_drewN _ _ _) (congrArg (World.drewN _) (Nat.add_assoc _ _ _))⟩))))
       go_ret
       exact ⟨by first | rfl | (simp [errW_none, errW_some] <;> rfl) | (simp [*, errW_none, errW_some] <;> rfl), by repeat (first | (with_reducible first | exact HB.out | apply below_alloc | apply pw_below_drewN | apply below_drew1 | refine below_set ?_ GE779.out) | exact HB.out)⟩
     ·rw [if_neg c5] at H
      exact absurd H (by simp)
    ·rw [if_neg c4] at H
     exact absurd H (by simp)
   ·rw [if_neg c3] at H
    have c3b0 : decide (x10_1 < (l1.length : Int)) = false := decide_eq_false c3
    clear c3
    obtain rfl := Option.some.inj H
    go_wp2
    repeat (go_quiet (fail); try go_wp2)
    go_ret
    exact ⟨by first | rfl | (simp [errW_none, errW_some] <;> rfl) | (simp [*, errW_none, errW_some] <;> rfl), by repeat (first | (with_reducible first | exact HB.out | apply below_alloc | apply pw_below_drewN | apply below_drew1) | exact HB.out)⟩


-- Answers of a fleet to shots.
def ansFrom (fl : List Int) (c set : Int) : Nat → Nat → Int
  | _, 0 => 0
  | i, d + 1 => if Go.bits .and .i64 (shr .i64 (rd fl (i : Int)) c) 1 = 1 then (if Go.bits .andNot .i64 (rd fl (i : Int)) set = 0 then 2 else 1) else ansFrom fl c set (i + 1) d
def NumFleet (fl : List Int) : Prop := ∀ x ∈ fl, ∃ m : Nat, x = (m : Int) ∧ m < 33554432
theorem and_dich {fl : List Int} (hf : NumFleet fl) (q i : Nat) (hq : q < 25) (hi : i < fl.length) : Go.bits .and .i64 (shr .i64 (rd fl (i : Int)) (q : Int)) 1 = 1 ∨ Go.bits .and .i64 (shr .i64 (rd fl (i : Int)) (q : Int)) 1 = 0 := by
  obtain ⟨m, e, hm⟩ := hf _ (List.getElem_mem hi)
  rw [rd_get fl i hi, e, bit_nat m q (Nat.lt_of_lt_of_le hm pow25_le) (by omega)]
  split
  · exact .inl rfl
  · exact .inr rfl
theorem specAns_ev {fl : List Int} (hf : NumFleet fl) (hl : fl.length ≤ 1000) (q : Nat) (hq : q < 25) (set : Int) : Ev (fun k => spec_l09Answer.f k fl (q : Int) set) (ansFrom fl (q : Int) set 0 fl.length) := by
  unfold spec_l09Answer.f
  have hu := u64_nat q (by omega)
  have c3 : (0 : Int) ≤ (q : Int) := by omega
  have key : ∀ (d i : Nat), i + d = fl.length → Ev (fun k => spec_l09Answer.l0 k fl (q : Int) set i) (ansFrom fl (q : Int) set i d) := by
    intro d
    induction d with
    | zero =>
      intro i hi
      refine Ev.step (f := fun _ => some 0) (fun k => ?_) (Ev.now _)
      simp only [spec_l09Answer.l0]
      rw [if_neg (by omega)]
    | succ d ih =>
      intro i hi
      have c1 : (i : Int) < (fl.length : Int) := by omega
      have c2 : (0 : Int) ≤ (i : Int) := by omega
      have hw := Aside0.mk (wrap_one (a := i) (by omega))
      have ih1 := ih (i + 1) (by omega)
      rcases and_dich hf q i hq (by omega) with hb | hb
      · have he : ansFrom fl (q : Int) set i (d + 1) = if Go.bits .andNot .i64 (rd fl (i : Int)) set = 0 then 2 else 1 := by unfold ansFrom; rw [if_pos hb]
        rw [he]
        refine Ev.step (f := fun _ => some (if Go.bits .andNot .i64 (rd fl (i : Int)) set = 0 then 2 else 1)) (fun k => ?_) (Ev.now _)
        simp only [spec_l09Answer.l0]
        rw [if_pos c1, if_pos c2, hu, if_pos c3, hb, if_neg (by decide)]
        split <;> rfl
      · have he : ansFrom fl (q : Int) set i (d + 1) = ansFrom fl (q : Int) set (i + 1) d := by show (if _ then _ else _) = _; rw [if_neg (by rw [hb]; decide)]
        rw [he]
        refine Ev.step (fun k => ?_) ih1
        simp only [spec_l09Answer.l0]
        rw [if_pos c1, if_pos c2, hu, if_pos c3, hb, if_pos rfl, hw.out]
  exact key fl.length 0 (by omega)
theorem implAns_ev {fl : List Int} (hf : NumFleet fl) (hl : fl.length ≤ 1000) (q : Nat) (hq : q < 25) (shot : Int) : Ev (fun k => impl_answer.f k fl shot (q : Int)) (ansFrom fl (q : Int) (Go.bits .or .i64 shot (shl .i64 1 (q : Int))) 0 fl.length) := by
  unfold impl_answer.f
  have c3 : (0 : Int) ≤ (q : Int) := by omega
  have key : ∀ (d i : Nat), i + d = fl.length → Ev (fun k => impl_answer.l0 k shot (q : Int) fl fl.length i) (ansFrom fl (q : Int) (Go.bits .or .i64 shot (shl .i64 1 (q : Int))) i d) := by
    intro d
    induction d with
    | zero =>
      intro i hi
      refine Ev.step (f := fun _ => some 0) (fun k => ?_) (Ev.now _)
      simp only [impl_answer.l0]
      rw [if_neg (by omega)]
    | succ d ih =>
      intro i hi
      have c1 : (i : Int) < (fl.length : Int) := by omega
      have c2 : (0 : Int) ≤ (i : Int) := by omega
      have hw := Aside0.mk (wrap_one (a := i) (by omega))
      have ih1 := ih (i + 1) (by omega)
      have w2 : wrap64 (1 + 1) = 2 := wrap_small (z := 2) (by omega) (by omega)
      have w1 : wrap64 (1 + 0) = 1 := wrap_small (z := 1) (by omega) (by omega)
      rcases and_dich hf q i hq (by omega) with hb | hb
      · have he : ansFrom fl (q : Int) (Go.bits .or .i64 shot (shl .i64 1 (q : Int))) i (d + 1) = if Go.bits .andNot .i64 (rd fl (i : Int)) (Go.bits .or .i64 shot (shl .i64 1 (q : Int))) = 0 then 2 else 1 := by show (if _ then _ else _) = _; rw [if_pos hb]
        rw [he]
        refine Ev.step (f := fun _ => some (if Go.bits .andNot .i64 (rd fl (i : Int)) (Go.bits .or .i64 shot (shl .i64 1 (q : Int))) = 0 then 2 else 1)) (fun k => ?_) (Ev.now _)
        simp only [impl_answer.l0]
        rw [if_pos c1, if_pos c2, if_pos c1, if_pos c3, hb, if_pos rfl]
        by_cases hz : Go.bits .andNot .i64 (rd fl (i : Int)) (Go.bits .or .i64 shot (shl .i64 1 (q : Int))) = 0
        · rw [if_pos hz, beq_iff_eq.2 hz]
          unfold impl_bit.f
          rw [if_pos rfl, Option.bind_some, w2]
        · rw [if_neg hz, beq_eq_false_iff_ne.2 hz]
          unfold impl_bit.f
          rw [if_neg (by simp), Option.bind_some, w1]
      · have he : ansFrom fl (q : Int) (Go.bits .or .i64 shot (shl .i64 1 (q : Int))) i (d + 1) = ansFrom fl (q : Int) (Go.bits .or .i64 shot (shl .i64 1 (q : Int))) (i + 1) d := by show (if _ then _ else _) = _; rw [if_neg (by rw [hb]; decide)]
        rw [he]
        refine Ev.step (fun k => ?_) ih1
        simp only [impl_answer.l0]
        rw [if_pos c1, if_pos c2, if_pos c1, if_pos c3, hb, if_neg (by decide), hw.out]
  exact key fl.length 0 (by omega)
def SeaCells (cells : List Int) : Prop := ∀ x ∈ cells, 0 ≤ x ∧ x ≤ 24
-- Different cells of a sea: the program sorts them, the reference keeps a set.
def fromOk (a : Int) : Option Int → Bool
  | none => true
  | some q => !decide (a ≤ q)
theorem risingFrom_cons (lo hi a : Int) (r : List Int) (p : Option Int) : risingFrom lo hi p (a :: r) = (inW a lo hi && fromOk a p && risingFrom lo hi (some a) r) := by
  cases p <;> simp [risingFrom, fromOk]
theorem risingFrom_iff (lo hi : Int) : ∀ (l : List Int) (p : Option Int), risingFrom lo hi p l = true ↔ (∀ x ∈ l, lo ≤ x ∧ x ≤ hi) ∧ l.Pairwise (· < ·) ∧ ∀ q, p = some q → ∀ x ∈ l.head?, q < x := by
  intro l
  induction l with
  | nil => intro p; simp [risingFrom]
  | cons a r ih =>
    intro p
    rw [risingFrom_cons]
    have hw : inW a lo hi = true ↔ lo ≤ a ∧ a ≤ hi := by unfold inW; simp
    rw [Bool.and_eq_true, Bool.and_eq_true, hw, ih]
    constructor
    · rintro ⟨⟨h1, h2⟩, h3, h4, h5⟩
      have hall : ∀ x ∈ r, a < x := by
        cases r with
        | nil => intro x hx; cases hx
        | cons b t =>
          have hab : a < b := h5 a rfl b (by simp)
          intro x hx
          rcases List.mem_cons.1 hx with rfl | hx
          · exact hab
          · have := (List.pairwise_cons.1 h4).1 x hx
            omega
      refine ⟨fun x hx => ?_, List.pairwise_cons.2 ⟨hall, h4⟩, fun q hq x hx => ?_⟩
      · rcases List.mem_cons.1 hx with rfl | hx
        · exact h1
        · exact h3 x hx
      · subst hq
        simp at hx
        subst hx
        simpa [fromOk] using h2
    · rintro ⟨h1, h2, h3⟩
      refine ⟨⟨h1 a (List.mem_cons_self ..), ?_⟩, fun x hx => h1 x (List.mem_cons_of_mem _ hx), (List.pairwise_cons.1 h2).2, fun q hq x hx => ?_⟩
      · cases p with
        | none => rfl
        | some q => have := h3 q rfl a (by simp); simpa [fromOk] using this
      · cases hq
        exact (List.pairwise_cons.1 h2).1 x (List.mem_of_mem_head? hx)
theorem rising_sorted (l : List Int) (lo hi : Int) : rising (l.mergeSort fun x y => decide (x ≤ y)) lo hi = true ↔ (∀ x ∈ l, lo ≤ x ∧ x ≤ hi) ∧ l.Nodup := by
  have hp : (l.mergeSort fun x y => decide (x ≤ y)).Perm l := List.mergeSort_perm _ _
  have hs : (l.mergeSort fun x y => decide (x ≤ y)).Pairwise (fun a b => decide (a ≤ b) = true) := List.pairwise_mergeSort (fun a b c h1 h2 => by simp at *; omega) (fun a b => by simp; omega) l
  unfold rising
  rw [risingFrom_iff]
  generalize l.mergeSort (fun x y => decide (x ≤ y)) = z at hp hs
  constructor
  · rintro ⟨h1, h2, _⟩
    exact ⟨fun x hx => h1 x (hp.mem_iff.2 hx), hp.nodup_iff.1 (h2.imp fun h => by omega)⟩
  · rintro ⟨h1, h2⟩
    refine ⟨fun x hx => h1 x (hp.mem_iff.1 hx), ?_, fun q hq => by cases hq⟩
    have hn := hp.nodup_iff.2 h2
    exact (hs.and hn).imp fun ⟨ha, hb⟩ => by
      have := of_decide_eq_true ha
      omega
/-- The reference's test. -/
def diffL (N : Nat) : Nat → List Int → Bool
  | _, [] => true
  | s, x :: r => inW x 0 ((N : Int) - 1) && (!(s.testBit x.toNat) && diffL N (s ||| 2 ^ x.toNat) r)
theorem diffL_iff (N : Nat) : ∀ (l : List Int) (s : Nat), diffL N s l = true ↔ (∀ x ∈ l, 0 ≤ x ∧ x ≤ (N : Int) - 1) ∧ l.Nodup ∧ ∀ x ∈ l, s.testBit x.toNat = false := by
  intro l
  induction l with
  | nil => intro s; simp [diffL]
  | cons a r ih =>
    intro s
    have hw : inW a 0 ((N : Int) - 1) = true ↔ 0 ≤ a ∧ a ≤ (N : Int) - 1 := by unfold inW; simp
    unfold diffL
    rw [Bool.and_eq_true, Bool.and_eq_true, hw, ih, Bool.not_eq_true']
    have hbit : ∀ x : Int, (s ||| 2 ^ a.toNat).testBit x.toNat = false ↔ s.testBit x.toNat = false ∧ ¬ a.toNat = x.toNat := by
      intro x
      rw [Nat.testBit_or, Bool.or_eq_false_iff, Nat.testBit_two_pow]
      simp
    constructor
    · rintro ⟨h1, h2, h3, h4, h5⟩
      refine ⟨fun x hx => ?_, List.nodup_cons.2 ⟨fun hm => ?_, h4⟩, fun x hx => ?_⟩
      · rcases List.mem_cons.1 hx with rfl | hx
        · exact h1
        · exact h3 x hx
      · exact ((hbit a).1 (h5 a hm)).2 rfl
      · rcases List.mem_cons.1 hx with rfl | hx
        · exact h2
        · exact ((hbit x).1 (h5 x hx)).1
    · rintro ⟨h1, h2, h3⟩
      have h2' := List.nodup_cons.1 h2
      have ha := h1 a (List.mem_cons_self ..)
      refine ⟨ha, h3 a (List.mem_cons_self ..), fun x hx => h1 x (List.mem_cons_of_mem _ hx), h2'.2, fun x hx => (hbit x).2 ⟨h3 x (List.mem_cons_of_mem _ hx), fun e => h2'.1 ?_⟩⟩
      have hx' := h1 x (List.mem_cons_of_mem _ hx)
      have : a = x := by omega
      rw [this]; exact hx
theorem diff_rising (N : Nat) (l : List Int) : diffL N 0 l = rising (l.mergeSort fun x y => decide (x ≤ y)) 0 ((N : Int) - 1) := by
  have h1 := diffL_iff N l 0
  have h2 := rising_sorted l 0 ((N : Int) - 1)
  rw [Bool.eq_iff_iff, h1, h2]
  constructor
  · rintro ⟨a, b, _⟩; exact ⟨a, b⟩
  · rintro ⟨a, b⟩; exact ⟨a, b, fun x _ => Nat.zero_testBit _⟩
theorem specDiff_ev {W H N : Nat} (hN : W * H = N) (hN25 : N ≤ 25) (ships l : List Int) (hl : l.length ≤ 1048576) : Ev (fun k => spec_l09Different.f k W H ships l) (diffL N 0 l) := by
  unfold spec_l09Different.f
  have hw : wrap64 (wrap64 ((W : Int) * (H : Int)) - 1) = (N : Int) - 1 := by
    rw [wrap_mul hN (by omega)]
    exact wrap_small (by omega) (by omega)
  have key : ∀ (d i s : Nat), i + d = l.length → s < 33554432 → Ev (fun k => spec_l09Different.l0 k l (s : Int) i W H ships) (diffL N s (l.drop i)) := by
    intro d
    induction d with
    | zero =>
      intro i s hi _
      rw [List.drop_eq_nil_of_le (by omega)]
      refine Ev.step (f := fun _ => some true) (fun k => ?_) (Ev.now _)
      simp only [spec_l09Different.l0]
      rw [if_neg (by omega)]
    | succ d ih =>
      intro i s hi hs
      have hil : i < l.length := by omega
      have c1 : (i : Int) < (l.length : Int) := by omega
      have c2 : (0 : Int) ≤ (i : Int) := by omega
      have hrd := rd_get l i hil
      have hwi := Aside0.mk (show wrap64 ((i : Int) + 1) = ((i + 1 : Nat) : Int) by rw [show (i : Int) + 1 = ((i + 1 : Nat) : Int) by omega]; exact wrap_num (by omega))
      rw [List.drop_eq_getElem_cons hil]
      generalize l[i] = x at hrd
      unfold diffL
      cases hx : inW x 0 ((N : Int) - 1) with
      | false =>
        rw [Bool.false_and]
        refine Ev.step (f := fun _ => some false) (fun k => ?_) (Ev.now _)
        simp only [spec_l09Different.l0]
        rw [if_pos c1, if_pos c2, in_inW, hw, hrd, hx, Option.bind_some, if_neg (by simp)]
      | true =>
        rw [Bool.true_and]
        obtain ⟨q, rfl, hq⟩ : ∃ q : Nat, x = (q : Int) ∧ q < N := by
          unfold inW at hx
          simp only [Bool.and_eq_true, decide_eq_true_eq] at hx
          exact ⟨x.toNat, by omega, by omega⟩
        rw [Int.toNat_natCast]
        have hu := u64_nat q (by omega)
        have c3 : (0 : Int) ≤ (q : Int) := by omega
        have hb := bit_nat s q (Nat.lt_of_lt_of_le hs pow25_le) (by omega)
        have hsh := shl_nat q (by omega)
        have hpq : 2 ^ q < 33554432 := Nat.lt_of_lt_of_le (Nat.pow_lt_pow_right (by omega) (show q < 25 by omega)) (by simp)
        have hor := bits_or_nat s (2 ^ q) (Nat.lt_of_lt_of_le hs pow25_le) (Nat.lt_of_lt_of_le hpq pow25_le)
        cases ht : s.testBit q with
        | true =>
          rw [ht, if_pos rfl] at hb
          refine Ev.step (f := fun _ => some false) (fun k => ?_) (Ev.now _)
          simp only [spec_l09Different.l0]
          rw [if_pos c1, if_pos c2, in_inW, hw, hrd, hx, Option.bind_some, if_pos rfl, hu, if_pos c3, hb, if_pos rfl]
        | false =>
          rw [ht, if_neg (by simp)] at hb
          rw [Bool.not_false, Bool.true_and]
          refine Ev.step (fun k => ?_) (ih (i + 1) (s ||| 2 ^ q) (by omega) (Nat.or_lt_two_pow (n := 25) hs hpq))
          simp only [spec_l09Different.l0]
          rw [if_pos c1, if_pos c2, in_inW, hw, hrd, hx, Option.bind_some, if_pos rfl, hu, if_pos c3, hb, if_neg (by decide), hsh, hor, hwi.out]
  have := key l.length 0 0 (by omega) (by omega)
  rw [List.drop_zero] at this
  exact this
-- Shots: copies, right shots, agreement. (for 43)
theorem rd93_get (l : List S93) (i : Nat) (h : i < l.length) : rd_T93 l (i : Int) = l[i] := by
  show l.getD (i : Int).toNat _ = _
  rw [Int.toNat_natCast, List.getD_eq_getElem?_getD, List.getElem?_eq_getElem h]; rfl
theorem rd95_get (l : List S95) (i : Nat) (h : i < l.length) : rd_T95 l (i : Int) = l[i] := by
  show l.getD (i : Int).toNat _ = _
  rw [Int.toNat_natCast, List.getD_eq_getElem?_getD, List.getElem?_eq_getElem h]; rfl
def shotOf (x : S95) : S93 := ⟨x.f0, x.f1⟩
theorem wrap_nat1 {i n : Nat} (h : i < n) (hn : n ≤ 1048576) : wrap64 ((i : Int) + 1) = ((i + 1 : Nat) : Int) := by
  rw [show (i : Int) + 1 = ((i + 1 : Nat) : Int) by omega]; exact wrap_num (by omega)
theorem take_set_gen {α : Type} (x y : List α) (i : Nat) (h : i < x.length) (hl : y.length = x.length) (ht : y.take i = x.take i) : (y.set i x[i]).take (i + 1) = x.take (i + 1) := take_set_next x y i h hl ht
theorem toShotS_ev (x : List S95) (hx : x.length ≤ 1048576) : Ev (fun k => laws_toShotS.f k x) (x.map shotOf) := by
  have hml : (x.map shotOf).length = x.length := List.length_map ..
  have key : ∀ (d i : Nat) (y : List S93), i + d = x.length → y.length = (x.map shotOf).length → y.take i = (x.map shotOf).take i → Ev (fun k => laws_toShotS.l0 k x y i) (x.map shotOf) := by
    intro d
    induction d with
    | zero =>
      intro i y hi hl ht
      refine Ev.step (f := fun _ => some (x.map shotOf)) (fun k => ?_) (Ev.now _)
      simp only [laws_toShotS.l0]
      rw [if_neg (by omega)]
      have : i = x.length := by omega
      rw [this, List.take_of_length_le (by omega), List.take_of_length_le (by omega)] at ht
      rw [ht]
    | succ d ih =>
      intro i y hi hl ht
      have hlt : i < x.length := by omega
      have c1 : (i : Int) < (x.length : Int) := by omega
      have c2 : (0 : Int) ≤ (i : Int) := by omega
      have c3 : (i : Int) < (y.length : Int) := by omega
      have hw := wrap_nat1 hlt hx
      have hg : (x.map shotOf)[i]'(by omega) = shotOf x[i] := List.getElem_map ..
      have ih1 := ih (i + 1) (y.set i (shotOf x[i])) (by omega) (by simpa using hl) (by rw [← hg]; exact take_set_gen (x.map shotOf) y i (by omega) hl ht)
      refine Ev.step (fun k => ?_) ih1
      simp only [laws_toShotS.l0]
      rw [if_pos c1, if_pos c2, rd95_get x i hlt]
      show (some (x[i].f0, x[i].f1)).bind _ = _
      rw [Option.bind_some, if_pos c3, Int.toNat_natCast, hw]
      rfl
  refine Ev.congr (f := fun k => laws_toShotS.l0 k x (List.replicate x.length (⟨0, 0⟩ : S93)) ((0 : Nat) : Int)) (fun k => ?_) (key x.length 0 _ (by omega) (by simp) (by simp))
  unfold laws_toShotS.f
  rw [if_pos (by omega), if_pos (by omega), Int.toNat_natCast]; rfl
theorem eqShotS_self (x : List S93) (hx : x.length ≤ 1048576) : Ev (fun k => laws_eqShotS.f k x x) true := by
  unfold laws_eqShotS.f
  have key : ∀ (d i : Nat), i + d = x.length → Ev (fun k => laws_eqShotS.l0 k x x i) true := by
    intro d
    induction d with
    | zero =>
      intro i hi
      refine Ev.step (f := fun _ => some true) (fun k => ?_) (Ev.now _)
      simp only [laws_eqShotS.l0]
      rw [if_neg (by omega)]
    | succ d ih =>
      intro i hi
      have hlt : i < x.length := by omega
      have c1 : (i : Int) < (x.length : Int) := by omega
      have c2 : (0 : Int) ≤ (i : Int) := by omega
      have hw := wrap_nat1 hlt hx
      refine Ev.step (fun k => ?_) (ih (i + 1) (by omega))
      simp only [laws_eqShotS.l0]
      rw [if_pos c1, if_pos c2, if_pos c1]
      unfold laws_eqShot.f
      rw [if_pos rfl, if_pos rfl, Option.bind_some, if_pos rfl, hw]
  exact Ev.congr (fun k => by rw [if_pos rfl]; rfl) (key x.length 0 (by omega))
/-- Whether shots are right: the answers, then the cells. -/
def ansOk : List S93 → Bool
  | [] => true
  | x :: r => inW x.f1 0 2 && ansOk r
def shotsOk (N : Nat) (T : List S93) : Bool := ansOk T && diffL N 0 (T.map fun x => x.f0)
theorem specShots_ev {W H N : Nat} (hN : W * H = N) (hN25 : N ≤ 25) (ships : List Int) (T : List S93) (hT : T.length ≤ 1048576) : Ev (fun k => spec_l09Shots.l0 k T [] 0 W H ships) (if shotsOk N T = true then 0 else 2) := by
  have key : ∀ (d i : Nat), i + d = T.length → Ev (fun k => spec_l09Shots.l0 k T ((T.take i).map fun x => x.f0) i W H ships) (if (ansOk (T.drop i) && diffL N 0 (T.map fun x => x.f0)) = true then 0 else 2) := by
    intro d
    induction d with
    | zero =>
      intro i hi
      have e : i = T.length := by omega
      subst e
      rw [List.take_length, List.drop_length]
      show Ev _ (if (true && diffL N 0 (T.map fun x => x.f0)) = true then 0 else 2)
      rw [Bool.true_and]
      have hd := specDiff_ev hN hN25 ships (T.map fun x => x.f0) (by rw [List.length_map]; exact hT)
      refine Ev.step (f := fun k => (spec_l09Different.f k W H ships (T.map fun x => x.f0)).bind fun t792 => (if t792 = true then (some 0) else (some 2))) (fun k => ?_) (Ev.bind hd ?_)
      · simp only [spec_l09Shots.l0]
        rw [if_neg (by omega)]
      · by_cases hv : diffL N 0 (T.map fun x => x.f0) = true
        · simp only [hv, if_true]; exact Ev.now _
        · simp only [hv, if_false, Bool.false_eq_true]; exact Ev.now _
    | succ d ih =>
      intro i hi
      have hlt : i < T.length := by omega
      have c1 : (i : Int) < (T.length : Int) := by omega
      have c2 : (0 : Int) ≤ (i : Int) := by omega
      have hw := wrap_nat1 hlt hT
      have ih1 := ih (i + 1) (by omega)
      have hs : (T.take (i + 1)).map (fun x => x.f0) = (T.take i).map (fun x => x.f0) ++ [T[i].f0] := by rw [List.take_succ_eq_append_getElem hlt, List.map_append]; rfl
      have hlen : ((T.take i).map (fun x => x.f0)).length < 17592186044416 := by rw [List.length_map, List.length_take]; omega
      rw [List.drop_eq_getElem_cons hlt]
      have hrd := rd93_get T i hlt
      show Ev _ (if (inW T[i].f1 0 2 && ansOk (T.drop (i + 1)) && diffL N 0 (T.map fun x => x.f0)) = true then 0 else 2)
      cases ha : inW T[i].f1 0 2 with
      | false =>
        rw [Bool.false_and, Bool.false_and]
        refine Ev.step (f := fun _ => some 2) (fun k => ?_) (Ev.now _)
        simp only [spec_l09Shots.l0]
        rw [if_pos c1, if_pos c2, hrd, in_inW, ha, Option.bind_some, if_neg (by simp)]
      | true =>
        rw [Bool.true_and]
        refine Ev.step (fun k => ?_) ih1
        simp only [spec_l09Shots.l0]
        rw [if_pos c1, if_pos c2, hrd, in_inW, ha, Option.bind_some, if_pos rfl, if_pos hlen, hw, hs]
  have := key T.length 0 (by omega)
  rw [List.drop_zero, List.take_zero] at this
  exact this
theorem implShots_ev {W H N : Nat} (hN : W * H = N) (hN25 : N ≤ 25) (ships : List Int) (T : List S93) (hT : T.length ≤ 1048576) : Ev (fun k => impl_Sea_areShots.f k W H ships T) (shotsOk N T) := by
  unfold impl_Sea_areShots.f
  have hcv : impl_Sea_areCells.f (W : Int) (H : Int) ships (T.map fun x => x.f0) = some (diffL N 0 (T.map fun x => x.f0)) := by
    unfold impl_Sea_areCells.f
    rw [if_pos (by rw [List.length_map]; exact hT), diff_rising, wrap_mul hN (by omega), wrap_small (z := (N : Int) - 1) (by omega) (by omega)]
  have key : ∀ (d i : Nat), i + d = T.length → Ev (fun k => impl_Sea_areShots.l0 k ((T.take i).map fun x => x.f0) T T.length i W H ships) (ansOk (T.drop i) && diffL N 0 (T.map fun x => x.f0)) := by
    intro d
    induction d with
    | zero =>
      intro i hi
      have e : i = T.length := by omega
      subst e
      rw [List.take_length, List.drop_length]
      show Ev _ (true && diffL N 0 (T.map fun x => x.f0))
      rw [Bool.true_and]
      refine Ev.step (f := fun _ => some (diffL N 0 (T.map fun x => x.f0))) (fun k => ?_) (Ev.now _)
      simp only [impl_Sea_areShots.l0]
      rw [if_neg (by omega), hcv, Option.bind_some]
    | succ d ih =>
      intro i hi
      have hlt : i < T.length := by omega
      have c1 : (i : Int) < (T.length : Int) := by omega
      have c2 : (0 : Int) ≤ (i : Int) := by omega
      have hw := wrap_nat1 hlt hT
      have ih1 := ih (i + 1) (by omega)
      have hs : (T.take (i + 1)).map (fun x => x.f0) = (T.take i).map (fun x => x.f0) ++ [T[i].f0] := by rw [List.take_succ_eq_append_getElem hlt, List.map_append]; rfl
      have hlen : ((T.take i).map (fun x => x.f0)).length < 17592186044416 := by rw [List.length_map, List.length_take]; omega
      rw [List.drop_eq_getElem_cons hlt]
      have hrd := rd93_get T i hlt
      show Ev _ (inW T[i].f1 0 2 && ansOk (T.drop (i + 1)) && diffL N 0 (T.map fun x => x.f0))
      cases ha : inW T[i].f1 0 2 with
      | false =>
        rw [Bool.false_and, Bool.false_and]
        refine Ev.step (f := fun _ => some false) (fun k => ?_) (Ev.now _)
        simp only [impl_Sea_areShots.l0]
        rw [if_pos c1, if_pos c2, if_pos c1, hrd, within_inW, ha, Option.bind_some, if_neg (by simp)]
      | true =>
        rw [Bool.true_and]
        refine Ev.step (fun k => ?_) ih1
        simp only [impl_Sea_areShots.l0]
        rw [if_pos c1, if_pos c2, if_pos c1, hrd, within_inW, ha, Option.bind_some, if_pos rfl, if_pos hlen, hw, hs]
  have := key T.length 0 (by omega)
  rw [List.drop_zero, List.take_zero] at this
  exact this
/-- Whether a fleet agrees with shots. -/
def agFrom (fl : List Int) : Int → List S93 → Bool
  | _, [] => true
  | set, x :: r => decide (ansFrom fl x.f0 (Go.bits .or .i64 set (shl .i64 1 x.f0)) 0 fl.length = x.f1) && agFrom fl (Go.bits .or .i64 set (shl .i64 1 x.f0)) r
theorem specAgrees_ev {fl : List Int} (hf : NumFleet fl) (hl : fl.length ≤ 1000) (T : List S93) (hT : T.length ≤ 1048576) (hc : SeaCells (T.map fun x => x.f0)) : Ev (fun k => spec_l09Agrees.f k fl T) (agFrom fl 0 T) := by
  unfold spec_l09Agrees.f
  have key : ∀ (d i : Nat) (set : Int), i + d = T.length → Ev (fun k => spec_l09Agrees.l0 k fl T set i) (agFrom fl set (T.drop i)) := by
    intro d
    induction d with
    | zero =>
      intro i set hi
      rw [List.drop_eq_nil_of_le (by omega)]
      refine Ev.step (f := fun _ => some true) (fun k => ?_) (Ev.now _)
      simp only [spec_l09Agrees.l0]
      rw [if_neg (by omega)]
    | succ d ih =>
      intro i set hi
      have hlt : i < T.length := by omega
      have c1 : (i : Int) < (T.length : Int) := by omega
      have c2 : (0 : Int) ≤ (i : Int) := by omega
      have hw := wrap_nat1 hlt hT
      have hrd := rd93_get T i hlt
      have hx := hc T[i].f0 (List.mem_map.2 ⟨T[i], List.getElem_mem _, rfl⟩)
      obtain ⟨q, hq, hq25⟩ : ∃ q : Nat, T[i].f0 = (q : Int) ∧ q < 25 := ⟨T[i].f0.toNat, by omega, by omega⟩
      have hu := u64_nat q (by omega)
      have c3 : (0 : Int) ≤ (q : Int) := by omega
      rw [List.drop_eq_getElem_cons hlt]
      unfold agFrom
      rw [hq]
      have ih1 := ih (i + 1) (Go.bits .or .i64 set (shl .i64 1 (q : Int))) (by omega)
      have ha := specAns_ev hf hl q hq25 (Go.bits .or .i64 set (shl .i64 1 (q : Int)))
      refine Ev.step (f := fun k => (spec_l09Answer.f k fl (q : Int) (Go.bits .or .i64 set (shl .i64 1 (q : Int)))).bind fun t462 => (if t462 = T[i].f1 then (spec_l09Agrees.l0 k fl T (Go.bits .or .i64 set (shl .i64 1 (q : Int))) ((i + 1 : Nat) : Int)) else (some false))) (fun k => ?_) (Ev.bind ha ?_)
      · simp only [spec_l09Agrees.l0]
        rw [if_pos c1, if_pos c2, hrd, hq, hu, if_pos c3, hw]
      · by_cases he : ansFrom fl (q : Int) (Go.bits .or .i64 set (shl .i64 1 (q : Int))) 0 fl.length = T[i].f1
        · rw [decide_eq_true he, Bool.true_and]
          exact Ev.congr (fun k => by rw [if_pos he]) ih1
        · rw [decide_eq_false he, Bool.false_and]
          exact Ev.congr (f := fun _ => some false) (fun k => by rw [if_neg he]) (Ev.now _)
  have := key T.length 0 0 (by omega)
  rw [List.drop_zero] at this
  exact this
theorem implAgrees_ev {fl : List Int} (hf : NumFleet fl) (hl : fl.length ≤ 1000) (T : List S93) (hT : T.length ≤ 1048576) (hc : SeaCells (T.map fun x => x.f0)) : Ev (fun k => impl_agrees.f k fl T) (agFrom fl 0 T) := by
  unfold impl_agrees.f
  have key : ∀ (d i : Nat) (set : Int), i + d = T.length → Ev (fun k => impl_agrees.l0 k fl set T T.length i) (agFrom fl set (T.drop i)) := by
    intro d
    induction d with
    | zero =>
      intro i set hi
      rw [List.drop_eq_nil_of_le (by omega)]
      refine Ev.step (f := fun _ => some true) (fun k => ?_) (Ev.now _)
      simp only [impl_agrees.l0]
      rw [if_neg (by omega)]
    | succ d ih =>
      intro i set hi
      have hlt : i < T.length := by omega
      have c1 : (i : Int) < (T.length : Int) := by omega
      have c2 : (0 : Int) ≤ (i : Int) := by omega
      have hw := wrap_nat1 hlt hT
      have hrd := rd93_get T i hlt
      have hx := hc T[i].f0 (List.mem_map.2 ⟨T[i], List.getElem_mem _, rfl⟩)
      obtain ⟨q, hq, hq25⟩ : ∃ q : Nat, T[i].f0 = (q : Int) ∧ q < 25 := ⟨T[i].f0.toNat, by omega, by omega⟩
      have c3 : (0 : Int) ≤ (q : Int) := by omega
      rw [List.drop_eq_getElem_cons hlt]
      unfold agFrom
      rw [hq]
      have ih1 := ih (i + 1) (Go.bits .or .i64 set (shl .i64 1 (q : Int))) (by omega)
      have ha := implAns_ev hf hl q hq25 set
      refine Ev.step (f := fun k => (impl_answer.f k fl set (q : Int)).bind fun t820 => (if t820 = T[i].f1 then (impl_agrees.l0 k fl (Go.bits .or .i64 set (shl .i64 1 (q : Int))) T T.length ((i + 1 : Nat) : Int)) else (some false))) (fun k => ?_) (Ev.bind ha ?_)
      · simp only [impl_agrees.l0]
        rw [if_pos c1, if_pos c2, if_pos c1, hrd, hq, if_pos c3, hw]
      · by_cases he : ansFrom fl (q : Int) (Go.bits .or .i64 set (shl .i64 1 (q : Int))) 0 fl.length = T[i].f1
        · rw [decide_eq_true he, Bool.true_and]
          exact Ev.congr (fun k => by rw [if_pos he]) ih1
        · rw [decide_eq_false he, Bool.false_and]
          exact Ev.congr (f := fun _ => some false) (fun k => by rw [if_neg he]) (Ev.now _)
  have := key T.length 0 0 (by omega)
  rw [List.drop_zero] at this
  exact this
-- The reference's list of fleets, as a plain function. (for 64)
/-- The reference's test of the next ship: the list so far, the cells used. -/
def goOk (ships list : List Int) (own used : Int) : Bool := decide (Go.bits .and .i64 own used = 0) && !(decide (0 < list.length) && (decide (rd ships (list.length : Int) = rd ships ((list.length : Int) - 1)) && decide (own < rd list ((list.length : Int) - 1))))
def goStep (most : Int) (ok : Int → Bool) (F : Int → Int → List (List Int)) (out : List (List Int)) (own : Int) : List (List Int) :=
  if most < 0 ∨ (out.length : Int) < most then (if ok own = true then out ++ F own (if most < 0 then most else most - (out.length : Int)) else out) else out
def goV (W H : Nat) (ships : List Int) (T : List S93) : Nat → List Int → Int → Int → List (List Int)
  | 0, list, _, _ => if agFrom list 0 T = true then [list] else []
  | d + 1, list, used, most => (placeOf W H ships list.length).foldl (goStep most (fun own => goOk ships list own used) (fun own rest => goV W H ships T d (list ++ [own]) (Go.bits .or .i64 used own) rest)) []
theorem foldl_all (ok : Int → Bool) (F : Int → Int → List (List Int)) (most : Int) (hm : most < 0) : ∀ (P : List Int) (out : List (List Int)), P.foldl (goStep most ok F) out = out ++ P.flatMap fun own => if ok own = true then F own most else []
  | [], out => by simp
  | x :: P, out => by
    rw [List.foldl_cons, foldl_all ok F most hm P, List.flatMap_cons]
    unfold goStep
    rw [if_pos (.inl hm), if_pos hm]
    split <;> simp
theorem flat_congr {α β : Type} (F G : α → List β) : ∀ P : List α, (∀ x ∈ P, F x = G x) → P.flatMap F = P.flatMap G
  | [], _ => rfl
  | x :: P, h => by
    rw [List.flatMap_cons, List.flatMap_cons, h x (List.mem_cons_self ..), flat_congr F G P (fun y hy => h y (List.mem_cons_of_mem _ hy))]
/-- With no bound all fleets come that agree. -/
theorem goV_all {W H : Nat} (hW : 1 ≤ W ∧ W ≤ 5) (hH : 1 ≤ H ∧ H ≤ 5) (ships : List Int) (hs : ∀ j : Nat, j < ships.length → inW (rd ships (j : Int)) 1 5 = true) (T : List S93) (most : Int) (hm : most < 0) :
    ∀ (d : Nat) (list : List Int) (used : Nat), list.length + d = ships.length → UsedBy list list.length used → goV W H ships T d list (used : Int) most = (fleetsFrom W H ships d list).filter fun fl => agFrom fl 0 T
  | 0, list, used, _, _ => by
    unfold goV fleetsFrom
    by_cases h : agFrom list 0 T = true <;> simp [h]
  | d + 1, list, used, hd, hu => by
    unfold goV fleetsFrom
    rw [foldl_all _ _ most hm, List.nil_append, List.filter_flatMap]
    have hP : ∀ own ∈ placeOf W H ships list.length, ∃ m : Nat, own = (m : Int) ∧ 0 < m ∧ m < 33554432 := by
      obtain ⟨n, hn, hn1, hn5⟩ := inW_five (hs list.length (by omega))
      unfold placeOf
      rw [hn, Int.toNat_natCast]
      exact placesOf_num hW.1 hW.2 hH.2 hn1
    have key : ∀ own ∈ placeOf W H ships list.length, (if goOk ships list own (used : Int) = true then goV W H ships T d (list ++ [own]) (Go.bits .or .i64 (used : Int) own) most else []) = (if goesV ships list own = true then fleetsFrom W H ships d (list ++ [own]) else []).filter fun fl => agFrom fl 0 T := by
      intro own ho
      obtain ⟨m, rfl, h0, h1⟩ := hP own ho
      have hlen : list.length < (list ++ [(m : Int)]).length := by simp
      have hrd : rd (list ++ [(m : Int)]) (list.length : Int) = (m : Int) := by rw [rd_get _ _ hlen]; simp
      have hpre : ∀ j : Nat, j < list.length → rd (list ++ [(m : Int)]) (j : Int) = rd list (j : Int) := fun j hj => by
        rw [rd_get _ _ (by simp; omega), rd_get _ _ hj, List.getElem_append_left hj]
      have hu' : UsedBy (list ++ [(m : Int)]) list.length used := by
        obtain ⟨u1, u2, u3⟩ := hu
        refine ⟨u1, fun j hj => by rw [hpre j hj]; exact u2 j hj, fun q => ?_⟩
        rw [u3]
        constructor
        · intro h j hj; unfold numAt; rw [hpre j hj]; exact h j hj
        · intro h j hj; have := h j hj; unfold numAt at this; rw [hpre j hj] at this; exact this
      have hgo := next_goes (ships := ships) hu' hlen hrd h0 h1
      rw [hrd, List.take_left' rfl] at hgo
      have hok : goOk ships list (m : Int) (used : Int) = goesV ships list (m : Int) := by
        rw [hgo]
        unfold goOk nextOk
        have hna : numAt (list ++ [(m : Int)]) list.length = m := by unfold numAt; rw [hrd, Int.toNat_natCast]
        rw [hna, hrd, bits_and_nat m used (Nat.lt_of_lt_of_le h1 pow25_le) (Nat.lt_of_lt_of_le hu.1 pow25_le)]
        have hz : decide (((m &&& used : Nat) : Int) = 0) = decide (m &&& used = 0) := decide_eq_decide.2 (by omega)
        rw [hz]
        by_cases hl : 0 < list.length
        · obtain ⟨p, hp⟩ : ∃ p, list.length = p + 1 := ⟨list.length - 1, by omega⟩
          have e : (list.length : Int) - 1 = (p : Int) := by omega
          rw [e, hpre p (by omega)]
        · rw [decide_eq_false hl]; rfl
      rw [hok]
      by_cases hg : goesV ships list (m : Int) = true
      · rw [if_pos hg, if_pos hg, bits_or_nat used m (Nat.lt_of_lt_of_le hu.1 pow25_le) (Nat.lt_of_lt_of_le h1 pow25_le)]
        refine goV_all hW hH ships hs T most hm d (list ++ [(m : Int)]) (used ||| m) (by simp; omega) ?_
        rw [show (list ++ [(m : Int)]).length = list.length + 1 by simp]
        exact used_step hu' hrd h0 h1
      · rw [if_neg hg, if_neg hg]; rfl
    exact flat_congr _ _ _ key

/-- Every ship of the list lies where its placements say. -/
def InPl (W H : Nat) (ships list : List Int) : Prop := ∀ (j : Nat) (h : j < list.length), list[j] ∈ placeOf W H ships j
theorem InPl.nil {W H : Nat} {ships : List Int} : InPl W H ships [] := fun j h => absurd h (by simp)
theorem InPl.snoc {W H : Nat} {ships list : List Int} {own : Int} (h : InPl W H ships list) (ho : own ∈ placeOf W H ships list.length) : InPl W H ships (list ++ [own]) := fun j hj => by
  rw [List.length_append, List.length_singleton] at hj
  by_cases hl : j < list.length
  · rw [List.getElem_append_left hl]; exact h j hl
  · have e : j = list.length := by omega
    subst e
    rw [List.getElem_append_right (Nat.le_refl _)]
    simpa using ho
theorem step_len (most : Int) (ok : Int → Bool) (F : Int → Int → List (List Int)) (n : Nat) (hF : ∀ own rest, (F own rest).length ≤ n) (out : List (List Int)) (own : Int) : (goStep most ok F out own).length ≤ out.length + n := by
  unfold goStep
  split
  · split
    · rw [List.length_append]; have := hF own (if most < 0 then most else most - (out.length : Int)); omega
    · omega
  · omega
theorem fold_len (most : Int) (ok : Int → Bool) (F : Int → Int → List (List Int)) (n : Nat) (hF : ∀ own rest, (F own rest).length ≤ n) : ∀ (P : List Int) (out : List (List Int)), (P.foldl (goStep most ok F) out).length ≤ out.length + P.length * n
  | [], out => by simp
  | x :: P, out => by
    rw [List.foldl_cons, List.length_cons, Nat.succ_mul]
    have h1 := fold_len most ok F n hF P (goStep most ok F out x)
    have h2 := step_len most ok F n hF out x
    omega
theorem goV_len (W H : Nat) (ships : List Int) (T : List S93) (hpl : ∀ j, (placeOf W H ships j).length ≤ 100) : ∀ (d : Nat) (list : List Int) (used most : Int), (goV W H ships T d list used most).length ≤ 100 ^ d
  | 0, list, used, most => by unfold goV; split <;> simp
  | d + 1, list, used, most => by
    unfold goV
    refine Nat.le_trans (fold_len most _ _ (100 ^ d) (fun own rest => goV_len W H ships T hpl d _ _ _) _ _) ?_
    have := Nat.mul_le_mul_right (100 ^ d) (hpl list.length)
    rw [Nat.pow_succ, Nat.mul_comm (100 ^ d)]
    simp only [List.length_nil]
    omega
theorem fold_stuck (most : Int) (ok : Int → Bool) (F : Int → Int → List (List Int)) (hm : ¬ most < 0) : ∀ (P : List Int) (out : List (List Int)), most ≤ (out.length : Int) → P.foldl (goStep most ok F) out = out
  | [], out, _ => rfl
  | x :: P, out, h => by
    have e : goStep most ok F out x = out := by unfold goStep; rw [if_neg (by omega)]
    rw [List.foldl_cons, e]
    exact fold_stuck most ok F hm P out h
/-- What the reference's loop has behind its rounds. -/
theorem go_rows (most : Int) (ok : Int → Bool) (F : Int → Int → List (List Int)) (n : Nat) (hF : ∀ own rest, (F own rest).length ≤ n) (P : List Int) : ∃ O : Nat → List (List Int), O 0 = [] ∧ (∀ (j : Nat) (h : j < P.length), O (j + 1) = goStep most ok F (O j) P[j]) ∧ P.foldl (goStep most ok F) [] = O P.length ∧ (∀ j, j ≤ P.length → ¬ most < 0 → most ≤ ((O j).length : Int) → O P.length = O j) ∧ ∀ j, j ≤ P.length → (O j).length ≤ P.length * n := by
  refine ⟨fun j => (P.take j).foldl (goStep most ok F) [], rfl, fun j h => ?_, by show _ = (P.take P.length).foldl _ []; rw [List.take_length], fun j hj hm hl => ?_, fun j hj => ?_⟩
  · show (P.take (j + 1)).foldl _ [] = _
    rw [List.take_succ_eq_append_getElem h, List.foldl_append]
    rfl
  · show (P.take P.length).foldl _ [] = (P.take j).foldl _ []
    rw [List.take_length]
    conv => lhs; rw [← List.take_append_drop j P]
    rw [List.foldl_append]
    exact fold_stuck most ok F hm _ _ hl
  · refine Nat.le_trans (fold_len most ok F n hF (P.take j) []) ?_
    have h1 : (P.take j).length ≤ P.length := by rw [List.length_take]; omega
    have := Nat.mul_le_mul_right n h1
    simp only [List.length_nil]
    omega
/-- The ways the test of the next ship can go. -/
theorem goOk_cases (ships list : List Int) (own used : Int) : (Go.bits .and .i64 own used ≠ 0 ∧ goOk ships list own used = false) ∨ (Go.bits .and .i64 own used = 0 ∧ list.length = 0 ∧ goOk ships list own used = true) ∨ ∃ m : Nat, list.length = m + 1 ∧ Go.bits .and .i64 own used = 0 ∧
    ((rd ships (list.length : Int) ≠ rd ships (m : Int) ∧ goOk ships list own used = true) ∨ (rd ships (list.length : Int) = rd ships (m : Int) ∧ own < rd list (m : Int) ∧ goOk ships list own used = false) ∨ (rd ships (list.length : Int) = rd ships (m : Int) ∧ ¬ own < rd list (m : Int) ∧ goOk ships list own used = true)) := by
  unfold goOk
  by_cases hb : Go.bits .and .i64 own used = 0
  · rw [decide_eq_true hb, Bool.true_and]
    by_cases hl : 0 < list.length
    · obtain ⟨m, hm⟩ : ∃ m, list.length = m + 1 := ⟨list.length - 1, by omega⟩
      have e : (list.length : Int) - 1 = (m : Int) := by omega
      refine .inr (.inr ⟨m, hm, hb, ?_⟩)
      rw [decide_eq_true hl, Bool.true_and, e]
      by_cases h1 : rd ships (list.length : Int) = rd ships (m : Int)
      · rw [decide_eq_true h1, Bool.true_and]
        by_cases h2 : own < rd list (m : Int)
        · exact .inr (.inl ⟨h1, h2, by rw [decide_eq_true h2]; rfl⟩)
        · exact .inr (.inr ⟨h1, h2, by rw [decide_eq_false h2]; rfl⟩)
      · exact .inl ⟨h1, by rw [decide_eq_false h1]; rfl⟩
    · exact .inr (.inl ⟨hb, by omega, by rw [decide_eq_false hl]; rfl⟩)
  · exact .inl ⟨hb, by rw [decide_eq_false hb]; rfl⟩
/-! ### spec_l09Go: function 64 -/
-- EXTERNAL: by hand
-- spec_l09Agrees spec_l09Placements spec_l01Own
-- goV goV_all
set_option maxHeartbeats 8000000 in
set_option maxRecDepth 100000 in
theorem spec_l09Go.ends (W0 H0 : Nat) (ships : List Int) (A2 : Option Addr) (c2 : Nat) (A3 : Option Addr) (c3 : Nat) (T : List S93) (used most : Int) (list : List Int) (A : Option Addr) (c : Nat) (okL : Nat → Prop) (ka : Nat) (w : World) (hd : list.length = ships.length) (hF : Kd.F (Kd.int .i64) w okL A list.length list) (hc : list.length ≤ c) (hT : Kd.C k93 w A3 T.length T) (hTc : T.length ≤ c3)
    (hag : spec_l09Agrees.f ka list T = some (agFrom list 0 T)) :
    Calls Try.prog 64 #[.agg #[.int .i64 (W0 : Int), .int .i64 (H0 : Int), .slice A2 ships.length c2], .slice A list.length c, .int .i64 used, .slice A3 T.length c3, .int .i64 most] w fun e w' => ∃ v, e = .returned v ∧ Kd.N (Kd.slice 2 (Kd.int .i64)) 22 w' w.heap.size (fun k => okL k ∨ w.heap.size ≤ k) v (goV W0 H0 ships T 0 list used most) ∧ Below w.heap.size w w' := by
  have HB := Aside0.mk (Below.refl w.heap.size w)
  have HF := Aside0.mk hF
  have HLc := Aside0.mk hc
  have HT := Aside0.mk hT
  have HTc := Aside0.mk hTc
  have HAg := Aside0.mk hag
  have hu28 := Try.underlying28
  have heq : ((list.length : Int) == (ships.length : Int)) = true := beq_iff_eq.mpr (by omega)
  have heqn : (list.length == ships.length) = true := beq_iff_eq.mpr (by omega)
  clear hF hc hT hTc hag hd
  unfold goV
  cases hb0 : agFrom list 0 T with
  | true =>
    rw [hb0] at HAg
    rw [if_pos rfl]
    clear hb0
    go_enter Try.func64, Try.ntmps64
    go_wp2_with (first | ((with_reducible refine gate_dst (N := 5) rfl ?_); refine box_event ?hg (N := 5) ?hd (cs := #[.int .i64 (W0 : Int), .int .i64 (H0 : Int), .slice A2 ships.length c2]) (t := 28) ?hr ?_; (case hd => rfl); (case hg => rfl); (case hr => first | (go_simp; done) | (go_simp; rfl)); intro g5 hg5 w1 hbox hb; have HX := Aside0.mk hbox; have HG5 := Aside0.mk (show w.heap.size ≤ g5 by omega); have n1_ := Aside0.mk (Kd.F_below HF.out hb); have n2_ := Aside0.mk (below_step HB.out hb); clear hbox hb hg5 HB HF; have HB := n2_; have HF := n1_; clear n1_ n2_; have hs0 := (blk_cell HX.out 0).trans rfl; have hs1 := (blk_cell HX.out 1).trans rfl; have hs2 := (blk_cell HX.out 2).trans rfl) | (go_at_call 84; refine (spec_l09Agrees.calls ka A c list A3 c3 T _ _ (Kd.F_now HF.out) HLc.out (Kd.C_below HT.out HB.out) HTc.out HAg.out).mono ?_; rintro e w2 ⟨rfl, hd⟩; have hb := hd.below; clear hd; (try clear hs0); (try clear hs1); (try clear hs2); have n0_ := Aside0.mk (blk_below HX.out hb); have n1_ := Aside0.mk (Kd.F_below HF.out hb); have n2_ := Aside0.mk (below_step HB.out hb); clear hb HX HB HF; have HX := n0_; have HB := n2_; have HF := n1_; clear n0_ n1_ n2_; have hs0 := (blk_cell HX.out 0).trans rfl; have hs1 := (blk_cell HX.out 1).trans rfl; have hs2 := (blk_cell HX.out 2).trans rfl) | ((with_reducible refine gate_dst (N := 26) rfl ?_); refine Kd.N_lit (Kd.slice 2 (Kd.int .i64)) (w0 := w) w.heap.size 22 ?hg (N' := 26) ?hd (xs := ([list] : List (List Int))) (inner := [.slice A list.length c]) (ok := fun k => okL k ∨ w.heap.size ≤ k) (okp := okL) ?hr ?hp (fun _ hk => .inl hk) (.inr (below_size HB.out)) HB.out (below_size HB.out) (by simp) ?_; (case hd => rfl); (case hg => rfl); (case hr => first | (go_simp; done) | (go_simp; rfl)); (case hp => exact Reps.one (Kd.FK_slice_mk HLc.out HF.out) (Reps.none _ _)); intro v26 w3 ho hb hg_ hnew_; clear hg_ hnew_; have HN := Aside0.mk ho; have HB3 := Aside0.mk hb; clear ho hb))
    go_ret
    exact ⟨_, rfl, HN.out, HB3.out⟩
  | false =>
    rw [hb0] at HAg
    rw [if_neg (by simp)]
    clear hb0
    go_enter Try.func64, Try.ntmps64
    go_wp2_with (first | ((with_reducible refine gate_dst (N := 5) rfl ?_); refine box_event ?hg (N := 5) ?hd (cs := #[.int .i64 (W0 : Int), .int .i64 (H0 : Int), .slice A2 ships.length c2]) (t := 28) ?hr ?_; (case hd => rfl); (case hg => rfl); (case hr => first | (go_simp; done) | (go_simp; rfl)); intro g5 hg5 w1 hbox hb; have HX := Aside0.mk hbox; have HG5 := Aside0.mk (show w.heap.size ≤ g5 by omega); have n1_ := Aside0.mk (Kd.F_below HF.out hb); have n2_ := Aside0.mk (below_step HB.out hb); clear hbox hb hg5 HB HF; have HB := n2_; have HF := n1_; clear n1_ n2_; have hs0 := (blk_cell HX.out 0).trans rfl; have hs1 := (blk_cell HX.out 1).trans rfl; have hs2 := (blk_cell HX.out 2).trans rfl) | (go_at_call 84; refine (spec_l09Agrees.calls ka A c list A3 c3 T _ _ (Kd.F_now HF.out) HLc.out (Kd.C_below HT.out HB.out) HTc.out HAg.out).mono ?_; rintro e w2 ⟨rfl, hd⟩; have hb := hd.below; clear hd; (try clear hs0); (try clear hs1); (try clear hs2); have n0_ := Aside0.mk (blk_below HX.out hb); have n1_ := Aside0.mk (Kd.F_below HF.out hb); have n2_ := Aside0.mk (below_step HB.out hb); clear hb HX HB HF; have HX := n0_; have HB := n2_; have HF := n1_; clear n0_ n1_ n2_; have hs0 := (blk_cell HX.out 0).trans rfl; have hs1 := (blk_cell HX.out 1).trans rfl; have hs2 := (blk_cell HX.out 2).trans rfl) | ((with_reducible refine gate_dst (N := 27) rfl ?_); refine Kd.N_lit (Kd.slice 2 (Kd.int .i64)) (w0 := w) w.heap.size 22 ?hg (N' := 27) ?hd (xs := ([] : List (List Int))) (inner := []) (ok := fun k => okL k ∨ w.heap.size ≤ k) (okp := okL) ?hr ?hp (fun _ hk => .inl hk) (.inr (below_size HB.out)) HB.out (below_size HB.out) (by simp) ?_; (case hd => rfl); (case hg => rfl); (case hr => first | (go_simp; done) | (go_simp; rfl)); (case hp => exact Reps.none _ _); intro v26 w3 ho hb hg_ hnew_; clear hg_ hnew_; have HN := Aside0.mk ho; have HB3 := Aside0.mk hb; clear ho hb))
    go_ret
    exact ⟨_, rfl, HN.out, HB3.out⟩

def spec_l09Go.T6 : Bool × List (List Nat × List Nat) := (true, [([], []), ([], []), ([1], [1]), ([], []), ([2, 3], [2, 3]), ([4], [4]), ([0, 5], [0, 5]), ([6, 6, 0, 1, 2, 3, 4, 5, 6], [6])])
def spec_l09Go.B6 : List Nat := [0, 0, 2, 0, 14, 30, 63, 127]
theorem spec_l09Go.tab6 : rtab .any (opsOf Try.f64 6) = spec_l09Go.T6 := by kernel_rfl
theorem spec_l09Go.bits6 : waitsOk spec_l09Go.T6.2 spec_l09Go.B6 = true := by kernel_rfl
def spec_l09Go.T14 : Bool × List (List Nat × List Nat) := (true, [([], []), ([], []), ([], []), ([2], [2]), ([], []), ([], []), ([4, 5], [4, 5]), ([6], [6]), ([7], [7]), ([3, 8, 3], [3, 8]), ([], []), ([], []), ([], []), ([11, 12], [11, 12]), ([13], [13]), ([10, 14], [10, 14]), ([], []), ([], []), ([1, 9, 15, 16, 17, 9], [1, 9, 15, 16, 17]), ([0, 18, 18], [0, 18]), ([19, 19, 0, 1, 2, 3, 4, 5, 6, 7, 8, 9, 10, 11, 12, 13, 14, 15, 16, 17, 18, 19], [0, 19])])
def spec_l09Go.B14 : List Nat := [0, 0, 0, 4, 0, 0, 48, 112, 240, 508, 0, 0, 0, 6144, 14336, 31744, 0, 0, 262142, 524287, 1048575]
theorem spec_l09Go.tab14 : rtab .any (opsOf Try.f64 14) = spec_l09Go.T14 := by kernel_rfl
theorem spec_l09Go.bits14 : waitsOk spec_l09Go.T14.2 spec_l09Go.B14 = true := by kernel_rfl

set_option maxHeartbeats 16000000 in
set_option maxRecDepth 100000 in
theorem spec_l09Go.does (W0 H0 : Nat) (ships : List Int) (A2 : Option Addr) (c2 : Nat) (A3 : Option Addr) (c3 : Nat) (T : List S93) (hw : W0 ≤ 5) (hh : H0 ≤ 5) (hs3 : ships.length ≤ 3) (hsc : ships.length ≤ c2) (hTc : T.length ≤ c3)
    (hpf : ∀ j : Nat, j < ships.length → ∃ kp, spec_l09Placements.f kp (W0 : Int) (H0 : Int) ships (rd ships (j : Int)) = some (placeOf W0 H0 ships j))
    (hag : ∀ list : List Int, list.length = ships.length → InPl W0 H0 ships list → ∃ ka, spec_l09Agrees.f ka list T = some (agFrom list 0 T)) :
    ∀ (d : Nat) (list : List Int) (used most : Int) (A : Option Addr) (c : Nat) (okL : Nat → Prop) (w : World), list.length + d = ships.length → InPl W0 H0 ships list → most < 9223372036854775808 → Kd.F (Kd.int .i64) w okL A list.length list → list.length ≤ c → Kd.C k93 w A3 T.length T → Kd.C (Kd.int .i64) w A2 ships.length ships →
    Calls Try.prog 64 #[.agg #[.int .i64 (W0 : Int), .int .i64 (H0 : Int), .slice A2 ships.length c2], .slice A list.length c, .int .i64 used, .slice A3 T.length c3, .int .i64 most] w fun e w' => ∃ v, e = .returned v ∧ Kd.N (Kd.slice 2 (Kd.int .i64)) 22 w' w.heap.size (fun k => okL k ∨ w.heap.size ≤ k) v (goV W0 H0 ships T d list used most) ∧ Below w.heap.size w w' := by
  have HPF := Aside0.mk hpf
  have HAG := Aside0.mk hag
  have HS3 := Aside0.mk hs3
  have HS2 := Aside0.mk hsc
  have HTc := Aside0.mk hTc
  have HPl : Aside0 (∀ j : Nat, (placeOf W0 H0 ships j).length ≤ 100) := ⟨fun j => placesOf_len hw hh⟩
  clear hpf hag hs3 hsc hTc hw hh
  have hu28 := Try.underlying28
  intro d
  induction d with
  | zero =>
    intro list used most A c okL w hd hin hm hF hc hT hS
    obtain ⟨ka, hka⟩ := HAG.out list (by omega) hin
    exact spec_l09Go.ends W0 H0 ships A2 c2 A3 c3 T used most list A c okL ka w (by omega) hF hc hT HTc.out hka
  | succ d ih =>
    intro list used most A c okL w hd hin hm hF hc hT hS
    obtain ⟨ad2, rfl, hsc⟩ := Kd.at_int hS (list.length : Int) (by omega) (by omega)
    rw [Int.toNat_natCast] at hsc
    have HIH := Aside0.mk ih
    have HF := Aside0.mk hF
    have HT := Aside0.mk hT
    have HSh := Aside0.mk hS
    have HLc := Aside0.mk hc
    have HD := Aside0.mk hd
    have HIn0 := Aside0.mk hin
    have HMo := Aside0.mk hm
    obtain ⟨kp, HPf0⟩ := HPF.out list.length (by omega)
    obtain ⟨sh, hsh⟩ : ∃ sh, rd ships (list.length : Int) = sh := ⟨_, rfl⟩
    rw [hsh] at hsc HPf0
    obtain ⟨P, hP⟩ : ∃ P, placeOf W0 H0 ships list.length = P := ⟨_, rfl⟩
    have hPl : P.length ≤ 100 := by rw [← hP]; exact HPl.out _
    rw [hP] at HPf0
    have HPL := Aside0.mk hPl
    have HPf := Aside0.mk HPf0
    have HPm := Aside0.mk (fun (x : Int) (hx : x ∈ P) => show x ∈ placeOf W0 H0 ships list.length by rw [hP]; exact hx)
    obtain ⟨O, hO0, hOs, hOe, hOk, hOl⟩ := go_rows most (fun own => goOk ships list own used) (fun own rest => goV W0 H0 ships T d (list ++ [own]) (Go.bits .or .i64 used own) rest) (100 ^ d) (fun own rest => goV_len W0 H0 ships T HPl.out d _ _ _) P
    have hgoal : goV W0 H0 ships T (d + 1) list used most = O P.length := by rw [← hOe, ← hP]; rfl
    rw [hgoal]
    have HOl : Aside0 (∀ j, j ≤ P.length → (O j).length ≤ 1000000) := ⟨fun j hj => Nat.le_trans (hOl j hj) (Nat.le_trans (Nat.mul_le_mul hPl (Nat.pow_le_pow_right (by omega) (show d ≤ 2 by have := HS3.out; omega))) (by omega))⟩
    have HFl := Aside0.mk (fun own rest => Nat.le_trans (goV_len W0 H0 ships T HPl.out d (list ++ [own]) (Go.bits .or .i64 used own) rest) (Nat.le_trans (Nat.pow_le_pow_right (by omega) (show d ≤ 2 by have := HS3.out; omega)) (show 100 ^ 2 ≤ 10000 by omega)))
    have HO0 := Aside0.mk hO0
    have HOS := Aside0.mk hOs
    have HOK := Aside0.mk hOk
    have HOwn := Aside0.mk (own_val list (by have := HS3.out; omega))
    have HRoom := Aside0.mk (show (list.length + 1) * 8 ≤ 140737488355328 by have := HS3.out; omega)
    have HSc := Aside0.mk hsc
    have hne : ((list.length : Int) == (ships.length : Int)) = false := beq_eq_false_iff_ne.mpr (by omega)
    have hnen : (list.length == ships.length) = false := beq_eq_false_iff_ne.mpr (by omega)
    have qa := eq_true (show (list.length : Int) < (ships.length : Int) by omega)
    have qb := eq_true (show list.length < ships.length by omega)
    have qc := eq_true (show (0 : Int) ≤ (list.length : Int) by omega)
    have HSH := Aside0.mk hsh
    clear hO0 hOs hOe hOk hOl hgoal hP hPl HPf0 hsc hF hc hT hS hd hin hm ih hsh
    go_enter Try.func64, Try.ntmps64
    go_wp2_with (first | ((with_reducible refine gate_dst (N := 5) rfl ?_); refine box_event ?hg (N := 5) ?hd (cs := #[.int .i64 (W0 : Int), .int .i64 (H0 : Int), .slice (some ad2) ships.length c2]) (t := 28) ?hr ?_; (case hd => rfl); (case hg => rfl); (case hr => first | (go_simp; done) | (go_simp; rfl)); intro g5 hg5 w1 hbox hb; have HX := Aside0.mk hbox; have HB := Aside0.mk hb; clear hbox hb hg5; have hs0 := (blk_cell HX.out 0).trans rfl; have hs1 := (blk_cell HX.out 1).trans rfl; have hs2 := (blk_cell HX.out 2).trans rfl) | ((with_reducible refine gate_dst (N := 30) rfl ?_); refine Kd.N_lit (Kd.slice 2 (Kd.int .i64)) (w0 := w1) w1.heap.size 22 ?hg (N' := 30) ?hd (xs := ([] : List (List Int))) (inner := []) (ok := fun k => okL k ∨ w.heap.size ≤ k) (okp := fun _ => False) ?hr ?hp (fun _ hk => hk.elim) (.inr (below_size HB.out)) (Below.refl _ _) (Nat.le_refl _) (by simp) ?_; (case hd => rfl); (case hg => rfl); (case hr => first | (go_simp; done) | (go_simp; rfl)); (case hp => exact Reps.none _ _); intro v30 w3 ho hb hg_ hnew_; clear hg_ hnew_; obtain ⟨A30, c30, e30⟩ := Kd.N_slice ho; subst e30; rw [show (([] : List (List Int)).length) = 0 from rfl] at ho; (try clear hs0); (try clear hs1); (try clear hs2); have HN := Aside0.mk (Kd.N_lower ho (below_size HB.out)); have n1_ := Aside0.mk (blk_below HX.out hb); have n2_ := Aside0.mk (below_step HB.out hb); clear HX HB ho hb; have HX := n1_; have HB := n2_; clear n1_ n2_; have hs0 := (blk_cell HX.out 0).trans rfl; have hs1 := (blk_cell HX.out 1).trans rfl; have hs2 := (blk_cell HX.out 2).trans rfl))
    have HXd := Aside0.mk (blk_drew HX.out)
    have HNd := Aside0.mk (Kd.N_drew HN.out)
    have HBd := Aside0.mk (below_drew1 HB.out)
    have hsd := (HBd.out.cell (World.block_lt_of_cell? _ _ HSc.out)).trans HSc.out
    clear HX HN HB hs0 hs1 hs2
    refine start_ (n := 8) (S := fun w' => w'.cell? ⟨g5, 0, none⟩ = some (.int .i64 (W0 : Int)) ∧ w'.cell? ⟨g5, 1, none⟩ = some (.int .i64 (H0 : Int)) ∧ w'.cell? ⟨g5, 2, none⟩ = some (.slice (some ad2) ships.length c2) ∧ w'.cell? (ad2.add list.length) = some (.int .i64 sh)) (ds := []) #[false, false, false, false, false, false, false, false] (by kernel_rfl) rfl rfl ⟨(blk_cell HXd.out 0).trans rfl, (blk_cell HXd.out 1).trans rfl, (blk_cell HXd.out 2).trans rfl, hsd⟩ (fun hHeld => ?_)
    refine with_tabW spec_l09Go.tab6 spec_l09Go.bits6 (fun HT_ HW_ => ?_)
    generalize hq_ : w3.drew = wd_ at HXd HNd HBd hsd hHeld ⊢
    clear hq_
    refine pure_ (i := 1) (N := some 32) (v := ?_) (a' := ?_) (flg_ 8 2) rfl rfl (any_of HT_.out (by kernel_rfl)) (fun _ _ _ h => h) (Or.inl ⟨by rfl, ?_⟩) ?_ ?_
    rotate_left
    · intro w'
      go_simp
      with_reducible rfl
    rotate_left
    · simp only [Act.put, sz_, s0_, s1_, i64_w, i32_w]
      rfl
    refine pure_ (i := 3) (N := some 34) (v := ?_) (a' := ?_) (flg_ 8 10) rfl rfl (any_of HT_.out (by kernel_rfl)) (fun _ _ _ h => h) (Or.inl ⟨by rfl, ?_⟩) ?_ ?_
    rotate_left
    · intro w'
      go_simp
      with_reducible rfl
    rotate_left
    · simp only [Act.put, sz_, s0_, s1_, i64_w, i32_w]
      rfl
    refine take_ (i := 0) (N := some 31) (v := ?_) (a' := ?_) (flg_ 8 11) rfl rfl (take_ofW HT_.out HW_.out (by kernel_rfl)) (fun _ _ _ h => h) (Or.inl ⟨by rfl, ?_⟩) hHeld ?_ ?_
    rotate_left
    · rintro w' ⟨s0_, s1_, s2_, s3_⟩
      go_simp
      with_reducible rfl
    rotate_left
    · simp only [Act.put, sz_, s0_, s1_, i64_w, i32_w]
      rfl
    refine take_ (i := 2) (N := some 33) (v := ?_) (a' := ?_) (flg_ 8 15) rfl rfl (take_ofW HT_.out HW_.out (by kernel_rfl)) (fun _ _ _ h => h) (Or.inl ⟨by rfl, ?_⟩) hHeld ?_ ?_
    rotate_left
    · rintro w' ⟨s0_, s1_, s2_, s3_⟩
      go_simp
      with_reducible rfl
    rotate_left
    · simp only [Act.put, sz_, s0_, s1_, i64_w, i32_w]
      rfl
    refine pure_ (i := 4) (N := some 35) (v := ?_) (a' := ?_) (flg_ 8 31) rfl rfl (any_of HT_.out (by kernel_rfl)) (fun _ _ _ h => h) (Or.inl ⟨by rfl, ?_⟩) ?_ ?_
    rotate_left
    · intro w'
      go_simp
      with_reducible rfl
    rotate_left
    · simp only [Act.put, sz_, s0_, s1_, i64_w, i32_w]
      rfl
    refine take_ (i := 5) (N := some 36) (v := ?_) (a' := ?_) (flg_ 8 63) rfl rfl (take_ofW HT_.out HW_.out (by kernel_rfl)) (fun _ _ _ h => h) (Or.inl ⟨by rfl, ?_⟩) hHeld ?_ ?_
    rotate_left
    · rintro w' ⟨s0_, s1_, s2_, s3_⟩
      go_simp
      with_reducible rfl
    rotate_left
    · simp only [Act.put, sz_, s0_, s1_, i64_w, i32_w]
      rfl
    refine one_ (i := 6) (N := some 37) (flg_ 8 127) rfl rfl (one_of HT_.out (by kernel_rfl)) (by decide) (fun K hK => ?_)
    refine goes_ Try.func57 (by kernel_rfl) rfl #[.agg #[.int .i64 (W0 : Int), .int .i64 (H0 : Int), .slice (some ad2) ships.length c2], .int .i64 sh] (by rfl) rfl rfl (by (try simp only [List.map_toArray, List.map_cons, List.map_nil]); first | done | rfl) ?_
    refine (spec_l09Placements.calls kp (W0 : Int) (H0 : Int) (some ad2) c2 ships sh P _ (Kd.C_below HSh.out HBd.out) HS2.out HPf.out).mono ?_
    rintro e w5 ⟨v37, rfl, ho, hb⟩
    refine ⟨_, rfl, ?_⟩
    obtain ⟨A13, c13, e13⟩ := Kd.R_slice ho
    subst e13
    have HP := Aside0.mk (Kd.R_lower ho (below_size HBd.out))
    have HX := Aside0.mk (blk_below HXd.out hb)
    have HN := Aside0.mk (Kd.N_below HNd.out hb)
    have hsd2 := (hb.cell (World.block_lt_of_cell? _ _ hsd)).trans hsd
    have HB := Aside0.mk (below_step HBd.out hb)
    clear ho hb HXd HNd HBd hsd
    refine hK.out _ _ ⟨(blk_cell HX.out 0).trans rfl, (blk_cell HX.out 1).trans rfl, (blk_cell HX.out 2).trans rfl, hsd2⟩ (fun hHeld => ?_)
    clear hK K hsd2
    refine norm_ (a' := ?_) ?_ ?_
    rotate_left
    · show Act.put _ (some 37) _ = _
      simp only [Act.put, sz_, s0_, s1_, i64_w, i32_w]
      rfl
    refine pure_ (i := 7) (N := some 13) (v := ?_) (a' := ?_) (flg_ 8 255) rfl rfl (any_of HT_.out (by kernel_rfl)) (fun _ _ _ h => h) (Or.inl ⟨by rfl, ?_⟩) ?_ ?_
    rotate_left
    · intro w'
      go_simp
      with_reducible rfl
    rotate_left
    · simp only [Act.put, sz_, s0_, s1_, i64_w, i32_w]
      rfl
    refine done_ (done_of HT_.out (by kernel_rfl)) ?_
    (try go_wp2_with fail)
    go_loopg [12, 14] P.length (fun gg s12 s14 wr => ∃ (j : Nat) (A12 : Option Addr) (c12 : Nat), j ≤ P.length ∧ P.length - j ≤ gg ∧ s12 = .slice A12 (O j).length c12 ∧ s14 = .int .i64 j ∧ Aside0 (Kd.N (Kd.slice 2 (Kd.int .i64)) 22 wr w.heap.size (fun k => okL k ∨ w.heap.size ≤ k) (.slice A12 (O j).length c12) (O j)) ∧ Aside0 (Kd.R (Kd.int .i64) 2 wr w.heap.size (fun _ => True) (.slice A13 P.length c13) P) ∧ Aside0 (wr.heap[g5]? = some (.cells #[.int .i64 (W0 : Int), .int .i64 (H0 : Int), .slice (some ad2) ships.length c2] 28 (0, 0))) ∧ Aside0 (Below w.heap.size w wr))
    case atStart => exact ⟨0, A30, c30, Nat.zero_le _, by omega, by rw [HO0.out]; rfl, rfl, ⟨by rw [HO0.out]; exact HN.out⟩, HP, HX, HB⟩
    case round =>
      clear HX HN HB HP
      obtain ⟨j, A12, c12, hj, hgj, rfl, rfl, HN, HP, HX, HB⟩ := hrel
      have hs0 := (blk_cell HX.out 0).trans rfl
      have hs1 := (blk_cell HX.out 1).trans rfl
      have hs2 := (blk_cell HX.out 2).trans rfl
      by_cases hlt : j < P.length
      · obtain ⟨adj, eqj, hxj⟩ := Kd.at_int (Kd.R_reads' HP.out).2.2 (j : Int) (by omega) (by omega)
        subst eqj
        rw [Int.toNat_natCast] at hxj
        obtain ⟨own, hown0⟩ : ∃ own, rd P (j : Int) = own := ⟨_, rfl⟩
        have hown : P[j] = own := by rw [← hown0, rd_get P j hlt]
        rw [hown0] at hxj
        have HRd := Aside0.mk hown0
        obtain ⟨ol, hol⟩ : ∃ ol, O j = ol := ⟨_, rfl⟩
        have HOlen := Aside0.mk (show ol.length ≤ 1000000 by rw [← hol]; exact HOl.out j hj)
        rw [hol] at HN ⊢
        have q1 := decide_eq_true (show (j : Int) < (P.length : Int) by omega)
        have q2 := decide_eq_true hlt
        have q3 := eq_true (show (j : Int) < (P.length : Int) by omega)
        have q4 := eq_true (show (0 : Int) ≤ (j : Int) by omega)
        have q5 := eq_true hlt
        have HJ0 := Aside0.mk (show (0 : Int) ≤ (j : Int) by omega)
        have HJ1 := Aside0.mk (show (j : Int) < (P.length : Int) by omega)
        have HJm := Aside0.mk (show P.length - (j + 1) < gk by omega)
        have HJr := Aside0.mk (show j + 1 ≤ P.length by omega)
        have HJs := Aside0.mk (show wrap64 ((j : Int) + 1) = ((j + 1 : Nat) : Int) from wrap_one (a := j) (by have := HPL.out; omega))
        have HLen := Aside0.mk (show (list ++ [own]).length + d = ships.length by have := HD.out; simp; omega)
        have HIn := Aside0.mk (HIn0.out.snoc (HPm.out own (by rw [← hown]; exact List.getElem_mem hlt)))
        clear hown0
        by_cases hneg : most < 0
        · 
          have HOs0 := HOS.out j hlt
          rw [hown, hol] at HOs0
          unfold goStep at HOs0
          rw [if_pos (.inl hneg)] at HOs0
          rw [if_pos hneg] at HOs0
          obtain ⟨rest, hrest⟩ : ∃ rest, most = rest := ⟨_, rfl⟩
          rw [hrest] at HOs0
          have HRest := Aside0.mk (show rest < 9223372036854775808 by have := HMo.out; omega)
          obtain ⟨fls, hfls⟩ : ∃ fls, goV W0 H0 ships T d (list ++ [own]) (Go.bits .or .i64 used own) rest = fls := ⟨_, rfl⟩
          have HFlen := HFl.out own rest
          rw [hfls] at HFlen
          have HFv := Aside0.mk hfls
          simp only [hfls] at HOs0
          have HCap := Aside0.mk (show (ol.length + fls.length) * 24 ≤ 140737488355328 by have := HOlen.out; omega)
          have hr2 := hrest.symm
          clear hrest
          subst hr2
          have m1 := decide_eq_true hneg
          have m2 := eq_true hneg
          have m3 := decide_eq_false (show ¬ (0 : Int) ≤ rest by omega)
          have m4 := decide_eq_false (show ¬ rest ≥ (0 : Int) by omega)
          clear hfls HFlen hown hlt hj hgj hneg
          rcases goOk_cases ships list own used with ⟨hbz, hok⟩ | ⟨hbz, hl0, hok⟩ | ⟨m, hm, hbz, ⟨h1, hok⟩ | ⟨h1, h2, hok⟩ | ⟨h1, h2, hok⟩⟩
          case inl =>
            rw [if_neg (by rw [hok]; simp)] at HOs0
            have HOs := Aside0.mk HOs0
            clear HOs0 hok
            have b1 : (Go.bits .and .i64 own used != 0) = true := bne_iff_ne.mpr hbz
            have b2 : (Go.bits .and .i64 own used == 0) = false := beq_eq_false_iff_ne.mpr hbz
            go_wp2_with fail
            go_quiet (fail)
            go_wp2_with fail
            have hbq := pw_below_drewN (Below.refl wr.heap.size wr) nq
            go_roundg (P.length - (j + 1))
            case measure => exact HJm.out
            case rel => exact ⟨j + 1, A12, c12, HJr.out, Nat.le_refl _, by rw [HOs.out], (by first | rfl | exact congrArg (Value.int .i64) HJs.out), ⟨by rw [HOs.out]; exact Kd.N_below HN.out hbq⟩, ⟨Kd.R_below HP.out hbq⟩, ⟨blk_below HX.out hbq⟩, ⟨below_step HB.out hbq⟩⟩
          case inr.inr.inr.inl =>
            rw [if_neg (by rw [hok]; simp)] at HOs0
            have HOs := Aside0.mk HOs0
            clear HOs0 hok
            have b1 : (Go.bits .and .i64 own used != 0) = false := by rw [hbz]; rfl
            have b2 : (Go.bits .and .i64 own used == 0) = true := by rw [hbz]; rfl
            obtain ⟨adL, eL, k3⟩ := Kd.at_int (Kd.C_below (Kd.F_now HF.out) HB.out) (m : Int) (by omega) (by omega)
            subst eL
            obtain ⟨ad21, e21, k1⟩ := Kd.at_int (Kd.C_below HSh.out HB.out) (list.length : Int) (by omega) (by have := HD.out; omega)
            obtain ⟨ad22, e22, k2⟩ := Kd.at_int (Kd.C_below HSh.out HB.out) (m : Int) (by omega) (by have := HD.out; omega)
            injection e21 with e21
            injection e22 with e22
            subst e21 e22
            rw [Int.toNat_natCast] at k1 k2 k3
            rw [HSH.out] at k1 h1
            have h0 := decide_eq_true (show (0 : Int) < (list.length : Int) by omega)
            have h0n := decide_eq_true (show 0 < list.length by omega)
            have w1_ := eq_true (show (m : Int) < (ships.length : Int) by have := HD.out; omega)
            have w2_ := eq_true (show m < ships.length by have := HD.out; omega)
            have w3_ := eq_true (show (m : Int) < (list.length : Int) by omega)
            have w4_ := eq_true (show m < list.length by omega)
            have w5_ := eq_true (show (0 : Int) ≤ (m : Int) by omega)
            have hn1 : wrap64 ((list.length : Int) - 1) = (m : Int) := by have := HS3.out; have := HD.out; unfold wrap64; omega
            clear hm
            generalize rd ships (m : Int) = s2 at *
            generalize rd list (m : Int) = lx at *
            subst h1
            have h1b := beq_self_eq_true sh
            have h2b := decide_eq_true h2
            have h2c := eq_true h2
            go_wp2_with fail
            go_quiet (fail)
            go_wp2_with fail
            have hbq := pw_below_drewN (Below.refl wr.heap.size wr) nq
            go_roundg (P.length - (j + 1))
            case measure => exact HJm.out
            case rel => exact ⟨j + 1, A12, c12, HJr.out, Nat.le_refl _, by rw [HOs.out], (by first | rfl | exact congrArg (Value.int .i64) HJs.out), ⟨by rw [HOs.out]; exact Kd.N_below HN.out hbq⟩, ⟨Kd.R_below HP.out hbq⟩, ⟨blk_below HX.out hbq⟩, ⟨below_step HB.out hbq⟩⟩
          case' inr.inl =>
            rw [if_pos hok] at HOs0
            have HOs := Aside0.mk HOs0
            clear HOs0 hok
            have b1 : (Go.bits .and .i64 own used != 0) = false := by rw [hbz]; rfl
            have b2 : (Go.bits .and .i64 own used == 0) = true := by rw [hbz]; rfl
            have h0 := decide_eq_false (show ¬ (0 : Int) < (list.length : Int) by omega)
            have h0n := decide_eq_false (show ¬ 0 < list.length by omega)
            clear hl0
            go_wp2_with fail
            go_quiet (fail)
            go_wp2_with fail
          case' inr.inr.inl =>
            rw [if_pos hok] at HOs0
            have HOs := Aside0.mk HOs0
            clear HOs0 hok
            have b1 : (Go.bits .and .i64 own used != 0) = false := by rw [hbz]; rfl
            have b2 : (Go.bits .and .i64 own used == 0) = true := by rw [hbz]; rfl
            obtain ⟨adL, eL, k3⟩ := Kd.at_int (Kd.C_below (Kd.F_now HF.out) HB.out) (m : Int) (by omega) (by omega)
            subst eL
            obtain ⟨ad21, e21, k1⟩ := Kd.at_int (Kd.C_below HSh.out HB.out) (list.length : Int) (by omega) (by have := HD.out; omega)
            obtain ⟨ad22, e22, k2⟩ := Kd.at_int (Kd.C_below HSh.out HB.out) (m : Int) (by omega) (by have := HD.out; omega)
            injection e21 with e21
            injection e22 with e22
            subst e21 e22
            rw [Int.toNat_natCast] at k1 k2 k3
            rw [HSH.out] at k1 h1
            have h0 := decide_eq_true (show (0 : Int) < (list.length : Int) by omega)
            have h0n := decide_eq_true (show 0 < list.length by omega)
            have w1_ := eq_true (show (m : Int) < (ships.length : Int) by have := HD.out; omega)
            have w2_ := eq_true (show m < ships.length by have := HD.out; omega)
            have w3_ := eq_true (show (m : Int) < (list.length : Int) by omega)
            have w4_ := eq_true (show m < list.length by omega)
            have w5_ := eq_true (show (0 : Int) ≤ (m : Int) by omega)
            have hn1 : wrap64 ((list.length : Int) - 1) = (m : Int) := by have := HS3.out; have := HD.out; unfold wrap64; omega
            clear hm
            generalize rd ships (m : Int) = s2 at *
            generalize rd list (m : Int) = lx at *
            have h1b : (sh == s2) = false := beq_eq_false_iff_ne.mpr h1
            go_wp2_with fail
            go_quiet (fail)
            go_wp2_with fail
            clear h1 h1b
          case' inr.inr.inr.inr =>
            rw [if_pos hok] at HOs0
            have HOs := Aside0.mk HOs0
            clear HOs0 hok
            have b1 : (Go.bits .and .i64 own used != 0) = false := by rw [hbz]; rfl
            have b2 : (Go.bits .and .i64 own used == 0) = true := by rw [hbz]; rfl
            obtain ⟨adL, eL, k3⟩ := Kd.at_int (Kd.C_below (Kd.F_now HF.out) HB.out) (m : Int) (by omega) (by omega)
            subst eL
            obtain ⟨ad21, e21, k1⟩ := Kd.at_int (Kd.C_below HSh.out HB.out) (list.length : Int) (by omega) (by have := HD.out; omega)
            obtain ⟨ad22, e22, k2⟩ := Kd.at_int (Kd.C_below HSh.out HB.out) (m : Int) (by omega) (by have := HD.out; omega)
            injection e21 with e21
            injection e22 with e22
            subst e21 e22
            rw [Int.toNat_natCast] at k1 k2 k3
            rw [HSH.out] at k1 h1
            have h0 := decide_eq_true (show (0 : Int) < (list.length : Int) by omega)
            have h0n := decide_eq_true (show 0 < list.length by omega)
            have w1_ := eq_true (show (m : Int) < (ships.length : Int) by have := HD.out; omega)
            have w2_ := eq_true (show m < ships.length by have := HD.out; omega)
            have w3_ := eq_true (show (m : Int) < (list.length : Int) by omega)
            have w4_ := eq_true (show m < list.length by omega)
            have w5_ := eq_true (show (0 : Int) ≤ (m : Int) by omega)
            have hn1 : wrap64 ((list.length : Int) - 1) = (m : Int) := by have := HS3.out; have := HD.out; unfold wrap64; omega
            clear hm
            generalize rd ships (m : Int) = s2 at *
            generalize rd list (m : Int) = lx at *
            subst h1
            have h1b := beq_self_eq_true sh
            have h2b := decide_eq_false h2
            have h2c := eq_false h2
            go_wp2_with fail
            go_quiet (fail)
            go_wp2_with fail
            clear h1b h2 h2b h2c
          all_goals
            (try clear b1 b2)
            (try clear h0 h0n)
            (try clear hn1)
            have hbq := below_drew1 (pw_below_drewN (Below.refl wr.heap.size wr) nq)
            have HXd := Aside0.mk (blk_below HX.out hbq)
            have HNd := Aside0.mk (Kd.N_below HN.out hbq)
            have HBd := Aside0.mk (below_step HB.out hbq)
            have HPd := Aside0.mk (Kd.R_below HP.out hbq)
            have hjd := (hbq.cell (World.block_lt_of_cell? _ _ hxj)).trans hxj
            clear hbq hxj
            (try clear k1)
            (try clear k2)
            (try clear k3)
            clear HX HN HB HP hs0 hs1 hs2
            refine start_ (n := 21) (S := fun w' => w'.cell? ⟨g5, 0, none⟩ = some (.int .i64 (W0 : Int)) ∧ w'.cell? ⟨g5, 1, none⟩ = some (.int .i64 (H0 : Int)) ∧ w'.cell? ⟨g5, 2, none⟩ = some (.slice (some ad2) ships.length c2) ∧ w'.cell? (adj.add j) = some (.int .i64 own)) (ds := []) #[false, false, false, false, false, false, false, false, false, false, false, false, false, false, false, false, false, false, false, false, false] (by kernel_rfl) rfl rfl ⟨(blk_cell HXd.out 0).trans rfl, (blk_cell HXd.out 1).trans rfl, (blk_cell HXd.out 2).trans rfl, hjd⟩ (fun hHeld => ?_)
            refine with_tabW spec_l09Go.tab14 spec_l09Go.bits14 (fun HT_ HW_ => ?_)
            generalize hq_ : (wr.drewN nq).drew = wd_ at HXd HNd HBd HPd hjd hHeld ⊢
            clear hq_
            have HBr := Aside0.mk (Below.refl wd_.heap.size wd_)
            refine pure_ (i := 0) (N := some 98) (v := ?_) (a' := ?_) (flg_ 21 1) rfl rfl (any_of HT_.out (by kernel_rfl)) (fun _ _ _ h => h) (Or.inl ⟨by rfl, ?_⟩) ?_ ?_
            rotate_left
            · intro w'
              go_simp
              with_reducible rfl
            rotate_left
            · simp only [Act.put, sz_, s0_, s1_, i64_w, i32_w]
              rfl
            refine pure_ (i := 2) (N := some 100) (v := ?_) (a' := ?_) (flg_ 21 5) rfl rfl (any_of HT_.out (by kernel_rfl)) (fun _ _ _ h => h) (Or.inl ⟨by rfl, ?_⟩) ?_ ?_
            rotate_left
            · intro w'
              go_simp
              with_reducible rfl
            rotate_left
            · simp only [Act.put, sz_, s0_, s1_, i64_w, i32_w]
              rfl
            refine pure_ (i := 4) (N := some 102) (v := ?_) (a' := ?_) (flg_ 21 21) rfl rfl (any_of HT_.out (by kernel_rfl)) (fun _ _ _ h => h) (Or.inl ⟨by rfl, ?_⟩) ?_ ?_
            rotate_left
            · intro w'
              go_simp
              with_reducible rfl
            rotate_left
            · simp only [Act.put, sz_, s0_, s1_, i64_w, i32_w]
              rfl
            refine pure_ (i := 5) (N := some 103) (v := ?_) (a' := ?_) (flg_ 21 53) rfl rfl (any_of HT_.out (by kernel_rfl)) (fun _ _ _ h => h) (Or.inl ⟨by rfl, ?_⟩) ?_ ?_
            rotate_left
            · intro w'
              go_simp
              with_reducible rfl
            rotate_left
            · simp only [Act.put, sz_, s0_, s1_, i64_w, i32_w]
              rfl
            refine pure_ (i := 10) (N := some 108) (v := ?_) (a' := ?_) (flg_ 21 1077) rfl rfl (any_of HT_.out (by kernel_rfl)) (fun _ _ _ h => h) (Or.inl ⟨by rfl, ?_⟩) ?_ ?_
            rotate_left
            · intro w'
              go_simp
              with_reducible rfl
            rotate_left
            · simp only [Act.put, sz_, s0_, s1_, i64_w, i32_w]
              rfl
            refine pure_ (i := 11) (N := some 109) (v := ?_) (a' := ?_) (flg_ 21 3125) rfl rfl (any_of HT_.out (by kernel_rfl)) (fun _ _ _ h => h) (Or.inl ⟨by rfl, ?_⟩) ?_ ?_
            rotate_left
            · intro w'
              go_simp
              with_reducible rfl
            rotate_left
            · simp only [Act.put, sz_, s0_, s1_, i64_w, i32_w]
              rfl
            refine pure_ (i := 12) (N := some 110) (v := ?_) (a' := ?_) (flg_ 21 7221) rfl rfl (any_of HT_.out (by kernel_rfl)) (fun _ _ _ h => h) (Or.inl ⟨by rfl, ?_⟩) ?_ ?_
            rotate_left
            · intro w'
              go_simp
              with_reducible rfl
            rotate_left
            · simp only [Act.put, sz_, s0_, s1_, i64_w, i32_w]
              rfl
            refine pure_ (i := 16) (N := some 114) (v := ?_) (a' := ?_) (flg_ 21 72757) rfl rfl (any_of HT_.out (by kernel_rfl)) (fun _ _ _ h => h) (Or.inl ⟨by rfl, ?_⟩) ?_ ?_
            rotate_left
            · intro w'
              go_simp
              with_reducible rfl
            rotate_left
            · simp only [Act.put, sz_, s0_, s1_, i64_w, i32_w]
              rfl
            refine pure_ (i := 17) (N := some 115) (v := ?_) (a' := ?_) (flg_ 21 203829) rfl rfl (any_of HT_.out (by kernel_rfl)) (fun _ _ _ h => h) (Or.inl ⟨by rfl, ?_⟩) ?_ ?_
            rotate_left
            · intro w'
              go_simp
              with_reducible rfl
            rotate_left
            · simp only [Act.put, sz_, s0_, s1_, i64_w, i32_w]
              rfl
            refine take_ (i := 1) (N := some 99) (v := ?_) (a' := ?_) (flg_ 21 203831) rfl rfl (take_ofW HT_.out HW_.out (by kernel_rfl)) (fun _ _ _ h => h) (Or.inl ⟨by rfl, ?_⟩) hHeld ?_ ?_
            rotate_left
            · rintro w' ⟨s0_, s1_, s2_, s3_⟩
              go_simp
              with_reducible rfl
            rotate_left
            · simp only [Act.put, sz_, s0_, s1_, i64_w, i32_w]
              rfl
            refine pure_ (i := 6) (N := some 104) (v := ?_) (a' := ?_) (flg_ 21 203895) rfl rfl (any_of HT_.out (by kernel_rfl)) (fun _ _ _ h => h) (Or.inl ⟨by rfl, ?_⟩) ?_ ?_
            rotate_left
            · intro w'
              go_simp
              with_reducible rfl
            rotate_left
            · simp only [Act.put, sz_, s0_, s1_, i64_w, i32_w]
              rfl
            refine take_ (i := 7) (N := some 105) (v := ?_) (a' := ?_) (flg_ 21 204023) rfl rfl (take_ofW HT_.out HW_.out (by kernel_rfl)) (fun _ _ _ h => h) (Or.inl ⟨by rfl, ?_⟩) hHeld ?_ ?_
            rotate_left
            · rintro w' ⟨s0_, s1_, s2_, s3_⟩
              go_simp
              with_reducible rfl
            rotate_left
            · simp only [Act.put, sz_, s0_, s1_, i64_w, i32_w]
              rfl
            refine pure_ (i := 13) (N := some 111) (v := ?_) (a' := ?_) (flg_ 21 212215) rfl rfl (any_of HT_.out (by kernel_rfl)) (fun _ _ _ h => h) (Or.inl ⟨by rfl, ?_⟩) ?_ ?_
            rotate_left
            · intro w'
              go_simp
              with_reducible rfl
            rotate_left
            · simp only [Act.put, sz_, s0_, s1_, i64_w, i32_w]
              rfl
            refine take_ (i := 14) (N := some 112) (v := ?_) (a' := ?_) (flg_ 21 228599) rfl rfl (take_ofW HT_.out HW_.out (by kernel_rfl)) (fun _ _ _ h => h) (Or.inl ⟨by rfl, ?_⟩) hHeld ?_ ?_
            rotate_left
            · rintro w' ⟨s0_, s1_, s2_, s3_⟩
              go_simp
              with_reducible rfl
            rotate_left
            · simp only [Act.put, sz_, s0_, s1_, i64_w, i32_w]
              rfl
            refine pure_ (i := 15) (N := some 113) (v := ?_) (a' := ?_) (flg_ 21 261367) rfl rfl (any_of HT_.out (by kernel_rfl)) (fun _ _ _ h => h) (Or.inl ⟨by rfl, ?_⟩) ?_ ?_
            rotate_left
            · intro w'
              go_simp
              with_reducible rfl
            rotate_left
            · simp only [Act.put, sz_, s0_, s1_, i64_w, i32_w]
              rfl
            refine two_ (i := 3) (j := 8) (Ni := some 101) (Nj := some 106) (flg_ 21 261375) (flg_ 21 261623) rfl rfl rfl rfl (two_of HT_.out (by kernel_rfl)) (by decide) (by decide) (fun K hK => ?_) (fun K hK => ?_)
            focus
              refine goes_ Try.func104 (by kernel_rfl) rfl #[.slice _ list.length c] (by rfl) rfl rfl (by (try simp only [List.map_toArray, List.map_cons, List.map_nil]); first | done | rfl) ?_
              refine (spec_l01Own.calls _ c list list _ (Kd.C_below (Kd.C_below (Kd.F_now HF.out) HBd.out) HBr.out) HLc.out HOwn.out).mono ?_
              rintro e wk_ ⟨v101, rfl, ho, hb⟩
              refine ⟨_, rfl, ?_⟩
              have HV := Aside0.mk (Kd.R_lower ho (below_size HBr.out))
              clear ho
              have nB_ := Aside0.mk (below_step HBr.out hb)
              clear hb HBr
              have HBr := nB_
              clear nB_
              refine hK.out _ _ ⟨(blk_cell (blk_below HXd.out HBr.out) 0).trans rfl, (blk_cell (blk_below HXd.out HBr.out) 1).trans rfl, (blk_cell (blk_below HXd.out HBr.out) 2).trans rfl, (HBr.out.cell (World.block_lt_of_cell? _ _ hjd)).trans hjd⟩ (fun hHeld => ?_)
              clear hK K
              refine norm_ (a' := ?_) ?_ ?_
              rotate_left
              · show Act.put _ (some 101) _ = _
                simp only [Act.put, sz_, s0_, s1_, i64_w, i32_w]
                rfl
              refine one_ (i := 8) (N := some 106) (flg_ 21 261631) rfl rfl (one_of HT_.out (by kernel_rfl)) (by decide) (fun K hK => ?_)
              refine Kd.R_lit_step (Kd.int .i64) _ 2 ?hg (N := 106) ?hd (xs := ([own] : List Int)) (inner := [.int .i64 own]) (ok := fun _ => True) (okp := fun _ => True) ?hr ?hp (fun _ hk => hk) trivial (Below.refl _ _) (Nat.le_refl _) (by simp) ?_; (case hd => rfl); (case hg => rfl); (case hr => first | (go_simp; done) | (go_simp; rfl)); (case hp => exact (Reps.one (show Kd.M (Kd.int .i64) _ _ _ own [.int .i64 own] from rfl) (Reps.none _ _)))
              intro v106 wl_ ho hb hg_ hnew_
              clear hg_ hnew_
              have HY := Aside0.mk (Kd.R_lower ho (below_size HBr.out))
              clear ho
              have nB_ := Aside0.mk (below_step HBr.out hb)
              have nHV_ := Aside0.mk (Kd.R_below HV.out hb)
              clear hb HBr HV
              have HBr := nB_
              have HV := nHV_
              clear nB_ nHV_
              refine hK.out _ _ ⟨(blk_cell (blk_below HXd.out HBr.out) 0).trans rfl, (blk_cell (blk_below HXd.out HBr.out) 1).trans rfl, (blk_cell (blk_below HXd.out HBr.out) 2).trans rfl, (HBr.out.cell (World.block_lt_of_cell? _ _ hjd)).trans hjd⟩ (fun hHeld => ?_)
              clear hK K
              refine norm_ (a' := ?_) ?_ ?_
              rotate_left
              · show Act.put _ (some 106) _ = _
                simp only [Act.put, sz_, s0_, s1_, i64_w, i32_w]
                rfl
            rotate_left
            focus
              refine Kd.R_lit_step (Kd.int .i64) _ 2 ?hg (N := 106) ?hd (xs := ([own] : List Int)) (inner := [.int .i64 own]) (ok := fun _ => True) (okp := fun _ => True) ?hr ?hp (fun _ hk => hk) trivial (Below.refl _ _) (Nat.le_refl _) (by simp) ?_; (case hd => rfl); (case hg => rfl); (case hr => first | (go_simp; done) | (go_simp; rfl)); (case hp => exact (Reps.one (show Kd.M (Kd.int .i64) _ _ _ own [.int .i64 own] from rfl) (Reps.none _ _)))
              intro v106 wl_ ho hb hg_ hnew_
              clear hg_ hnew_
              have HY := Aside0.mk (Kd.R_lower ho (below_size HBr.out))
              clear ho
              have nB_ := Aside0.mk (below_step HBr.out hb)
              clear hb HBr
              have HBr := nB_
              clear nB_
              refine hK.out _ _ ⟨(blk_cell (blk_below HXd.out HBr.out) 0).trans rfl, (blk_cell (blk_below HXd.out HBr.out) 1).trans rfl, (blk_cell (blk_below HXd.out HBr.out) 2).trans rfl, (HBr.out.cell (World.block_lt_of_cell? _ _ hjd)).trans hjd⟩ (fun hHeld => ?_)
              clear hK K
              refine norm_ (a' := ?_) ?_ ?_
              rotate_left
              · show Act.put _ (some 106) _ = _
                simp only [Act.put, sz_, s0_, s1_, i64_w, i32_w]
                rfl
              refine one_ (i := 3) (N := some 101) (flg_ 21 261631) rfl rfl (one_of HT_.out (by kernel_rfl)) (by decide) (fun K hK => ?_)
              refine goes_ Try.func104 (by kernel_rfl) rfl #[.slice _ list.length c] (by rfl) rfl rfl (by (try simp only [List.map_toArray, List.map_cons, List.map_nil]); first | done | rfl) ?_
              refine (spec_l01Own.calls _ c list list _ (Kd.C_below (Kd.C_below (Kd.F_now HF.out) HBd.out) HBr.out) HLc.out HOwn.out).mono ?_
              rintro e wk_ ⟨v101, rfl, ho, hb⟩
              refine ⟨_, rfl, ?_⟩
              have HV := Aside0.mk (Kd.R_lower ho (below_size HBr.out))
              clear ho
              have nB_ := Aside0.mk (below_step HBr.out hb)
              have nHY_ := Aside0.mk (Kd.R_below HY.out hb)
              clear hb HBr HY
              have HBr := nB_
              have HY := nHY_
              clear nB_ nHY_
              refine hK.out _ _ ⟨(blk_cell (blk_below HXd.out HBr.out) 0).trans rfl, (blk_cell (blk_below HXd.out HBr.out) 1).trans rfl, (blk_cell (blk_below HXd.out HBr.out) 2).trans rfl, (HBr.out.cell (World.block_lt_of_cell? _ _ hjd)).trans hjd⟩ (fun hHeld => ?_)
              clear hK K
              refine norm_ (a' := ?_) ?_ ?_
              rotate_left
              · show Act.put _ (some 101) _ = _
                simp only [Act.put, sz_, s0_, s1_, i64_w, i32_w]
                rfl
            all_goals
              obtain ⟨A106, c106, e106⟩ := Kd.R_slice HY.out
              subst e106
              refine one_ (i := 9) (N := some 107) (flg_ 21 262143) rfl rfl (one_of HT_.out (by kernel_rfl)) (by decide) (fun K hK => ?_)
              refine Kd.R_append_rows_step (Kd.int .i64) (w0 := wd_) wd_.heap.size (by rfl) (.tmp 101) (.tmp 106) 22 2 (.int .i64 0) 8 rfl Try.underlying22 info2 rfl (by decide) (by omega) v101 list [own] _ _ _ (fun _ => True) (fun _ => False) rfl rfl HV.out (Kd.R_reads' HY.out).2.2 (fun _ _ h => h) (fun _ h => h.elim) (fun _ _ => trivial) HBr.out (below_size HBr.out) HRoom.out ?_
              intro v107 wp_ ho hb hg hat
              have HA := Aside0.mk ho
              have nB_ := Aside0.mk hb
              clear ho hb hg hat HBr HV HY
              have HBr := nB_
              clear nB_
              obtain ⟨A107, c107, e107⟩ := Kd.R_slice HA.out
              subst e107
              refine hK.out _ _ ⟨(blk_cell (blk_below HXd.out HBr.out) 0).trans rfl, (blk_cell (blk_below HXd.out HBr.out) 1).trans rfl, (blk_cell (blk_below HXd.out HBr.out) 2).trans rfl, (HBr.out.cell (World.block_lt_of_cell? _ _ hjd)).trans hjd⟩ (fun hHeld => ?_)
              clear hK K
              refine norm_ (a' := ?_) ?_ ?_
              rotate_left
              · show Act.put _ (some 107) _ = _
                simp only [Act.put, sz_, s0_, s1_, i64_w, i32_w]
                rfl
              refine one_ (i := 18) (N := some 116) (flg_ 21 524287) rfl rfl (one_of HT_.out (by kernel_rfl)) (by decide) (fun K hK => ?_)
              refine goes_ Try.func64 (by kernel_rfl) rfl #[.agg #[.int .i64 (W0 : Int), .int .i64 (H0 : Int), .slice (some ad2) ships.length c2], .slice A107 (list ++ [own]).length c107, .int .i64 (Go.bits .or .i64 used own), .slice A3 T.length c3, .int .i64 rest] (by rfl) rfl rfl (by (try simp only [List.map_toArray, List.map_cons, List.map_nil]); first | done | rfl) ?_
              refine (HIH.out (list ++ [own]) (Go.bits .or .i64 used own) rest A107 c107 (fun k => wd_.heap.size ≤ k) wp_ HLen.out HIn.out HRest.out (Kd.F_mono (Kd.R_F (Kd.R_tight rfl HA.out)) (fun k hk => Kd.R_base HA.out k hk.symm)) (Kd.R_reads' HA.out).2.1 (Kd.C_below (Kd.C_below HT.out HBd.out) HBr.out) (Kd.C_below (Kd.C_below HSh.out HBd.out) HBr.out)).mono ?_
              rintro e wf_ ⟨v116, rfl, ho, hb⟩
              refine ⟨_, rfl, ?_⟩
              obtain ⟨A116, c116, e116⟩ := Kd.N_slice ho
              subst e116
              rw [HFv.out] at ho
              have HR := Aside0.mk (Kd.N_F (Kd.N_mono (ok' := fun k => wd_.heap.size ≤ k) ho (fun k hk => hk.elim id (fun h => Nat.le_trans (below_size HBr.out) h))))
              have nB_ := Aside0.mk (below_step HBr.out hb)
              clear ho hb HBr HA
              have HBr := nB_
              clear nB_
              refine hK.out _ _ ⟨(blk_cell (blk_below HXd.out HBr.out) 0).trans rfl, (blk_cell (blk_below HXd.out HBr.out) 1).trans rfl, (blk_cell (blk_below HXd.out HBr.out) 2).trans rfl, (HBr.out.cell (World.block_lt_of_cell? _ _ hjd)).trans hjd⟩ (fun hHeld => ?_)
              clear hK K
              refine norm_ (a' := ?_) ?_ ?_
              rotate_left
              · show Act.put _ (some 116) _ = _
                simp only [Act.put, sz_, s0_, s1_, i64_w, i32_w]
                rfl
              refine one_ (i := 19) (N := some 117) (flg_ 21 1048575) rfl rfl (one_of HT_.out (by kernel_rfl)) (by decide) (fun K hK => ?_)
              refine Kd.N_append_rows_step (Kd.slice 2 (Kd.int .i64)) (w0 := w) w.heap.size (by rfl) (.tmp 98) (.tmp 116) 42 22 (.slice none 0 0) 24 rfl Try.underlying42 info22 rfl (by decide) (by omega) (.slice A12 ol.length c12) ol fls A116 fls.length c116 (fun k => okL k ∨ w.heap.size ≤ k) (fun k => wd_.heap.size ≤ k) (by rfl) (by first | rfl | (rw [← HFv.out]; rfl)) (Kd.N_below HNd.out HBr.out) HR.out (fun k hk => ⟨.inr (Nat.le_trans (below_size HBd.out) hk), fun e_ => by have := Kd.N_lt HNd.out k e_.symm; omega⟩) (fun k hk => .inr (Nat.le_trans (Nat.le_trans (below_size HBd.out) (below_size HBr.out)) hk)) (below_step HBd.out HBr.out) (Nat.le_trans (below_size HBd.out) (below_size HBr.out)) HCap.out ?_
              intro v117 wg_ ho hb hg hat
              obtain ⟨A117, c117, e117⟩ := Kd.N_slice ho
              subst e117
              have HX := Aside0.mk ((hg.block _ (blk_lt (blk_below HXd.out HBr.out)) (Kd.N_ne (Kd.N_below HNd.out HBr.out) (blk_below HXd.out HBr.out) (by decide))).trans (blk_below HXd.out HBr.out))
              have HP := Aside0.mk (Kd.R_over' (e' := 22) (Kd.R_below HPd.out HBr.out) (Kd.N_typed (Kd.N_below HNd.out HBr.out)) (by decide) hg)
              have HN := Aside0.mk ho
              have HB := Aside0.mk hb
              clear ho hb hg hat HBr HR HXd HNd HBd HPd hjd
              obtain ⟨adk, ek, hxk⟩ := Kd.at_int (Kd.R_reads' HP.out).2.2 (j : Int) HJ0.out HJ1.out
              cases ek
              rw [Int.toNat_natCast, HRd.out] at hxk
              refine hK.out _ _ ⟨(blk_cell HX.out 0).trans rfl, (blk_cell HX.out 1).trans rfl, (blk_cell HX.out 2).trans rfl, hxk⟩ (fun hHeld => ?_)
              clear hK K hxk
              refine norm_ (a' := ?_) ?_ ?_
              rotate_left
              · show Act.put _ (some 117) _ = _
                simp only [Act.put, sz_, s0_, s1_, i64_w, i32_w]
                rfl
              refine pure_ (i := 20) (N := some 12) (v := ?_) (a' := ?_) (flg_ 21 2097151) rfl rfl (any_of HT_.out (by kernel_rfl)) (fun _ _ _ h => h) (Or.inl ⟨by rfl, ?_⟩) ?_ ?_
              rotate_left
              · intro w'
                go_simp
                with_reducible rfl
              rotate_left
              · simp only [Act.put, sz_, s0_, s1_, i64_w, i32_w]
                rfl
              refine done_ (done_of HT_.out (by kernel_rfl)) ?_
              go_wp2_with fail
              go_roundg (P.length - (j + 1))
              case measure => exact HJm.out
              case rel => exact ⟨j + 1, A117, c117, HJr.out, Nat.le_refl _, by rw [HOs.out, List.length_append], (by first | rfl | exact congrArg (Value.int .i64) HJs.out), ⟨by rw [HOs.out]; exact HN.out⟩, HP, HX, HB⟩
        · by_cases hml : (ol.length : Int) < most
          · 
            have HOs0 := HOS.out j hlt
            rw [hown, hol] at HOs0
            unfold goStep at HOs0
            rw [if_pos (.inr hml)] at HOs0
            rw [if_neg hneg] at HOs0
            obtain ⟨rest, hrest⟩ : ∃ rest, most - (ol.length : Int) = rest := ⟨_, rfl⟩
            rw [hrest] at HOs0
            have HRest := Aside0.mk (show rest < 9223372036854775808 by have := HMo.out; omega)
            obtain ⟨fls, hfls⟩ : ∃ fls, goV W0 H0 ships T d (list ++ [own]) (Go.bits .or .i64 used own) rest = fls := ⟨_, rfl⟩
            have HFlen := HFl.out own rest
            rw [hfls] at HFlen
            have HFv := Aside0.mk hfls
            simp only [hfls] at HOs0
            have HCap := Aside0.mk (show (ol.length + fls.length) * 24 ≤ 140737488355328 by have := HOlen.out; omega)
            have m1 := decide_eq_false hneg
            have m2 := eq_false hneg
            have m3 := decide_eq_true (show (0 : Int) ≤ most by omega)
            have m4 := decide_eq_true (show most ≥ (0 : Int) by omega)
            have m5 := decide_eq_true hml
            have m6 := eq_true hml
            have m7 : wrap64 (most - (ol.length : Int)) = rest := by rw [← hrest]; have := HMo.out; have := HOlen.out; unfold wrap64; omega
            clear hfls HFlen hown hlt hj hgj hml hrest hneg
            rcases goOk_cases ships list own used with ⟨hbz, hok⟩ | ⟨hbz, hl0, hok⟩ | ⟨m, hm, hbz, ⟨h1, hok⟩ | ⟨h1, h2, hok⟩ | ⟨h1, h2, hok⟩⟩
            case inl =>
              rw [if_neg (by rw [hok]; simp)] at HOs0
              have HOs := Aside0.mk HOs0
              clear HOs0 hok
              have b1 : (Go.bits .and .i64 own used != 0) = true := bne_iff_ne.mpr hbz
              have b2 : (Go.bits .and .i64 own used == 0) = false := beq_eq_false_iff_ne.mpr hbz
              go_wp2_with fail
              go_quiet (fail)
              go_wp2_with fail
              have hbq := pw_below_drewN (Below.refl wr.heap.size wr) nq
              go_roundg (P.length - (j + 1))
              case measure => exact HJm.out
              case rel => exact ⟨j + 1, A12, c12, HJr.out, Nat.le_refl _, by rw [HOs.out], (by first | rfl | exact congrArg (Value.int .i64) HJs.out), ⟨by rw [HOs.out]; exact Kd.N_below HN.out hbq⟩, ⟨Kd.R_below HP.out hbq⟩, ⟨blk_below HX.out hbq⟩, ⟨below_step HB.out hbq⟩⟩
            case inr.inr.inr.inl =>
              rw [if_neg (by rw [hok]; simp)] at HOs0
              have HOs := Aside0.mk HOs0
              clear HOs0 hok
              have b1 : (Go.bits .and .i64 own used != 0) = false := by rw [hbz]; rfl
              have b2 : (Go.bits .and .i64 own used == 0) = true := by rw [hbz]; rfl
              obtain ⟨adL, eL, k3⟩ := Kd.at_int (Kd.C_below (Kd.F_now HF.out) HB.out) (m : Int) (by omega) (by omega)
              subst eL
              obtain ⟨ad21, e21, k1⟩ := Kd.at_int (Kd.C_below HSh.out HB.out) (list.length : Int) (by omega) (by have := HD.out; omega)
              obtain ⟨ad22, e22, k2⟩ := Kd.at_int (Kd.C_below HSh.out HB.out) (m : Int) (by omega) (by have := HD.out; omega)
              injection e21 with e21
              injection e22 with e22
              subst e21 e22
              rw [Int.toNat_natCast] at k1 k2 k3
              rw [HSH.out] at k1 h1
              have h0 := decide_eq_true (show (0 : Int) < (list.length : Int) by omega)
              have h0n := decide_eq_true (show 0 < list.length by omega)
              have w1_ := eq_true (show (m : Int) < (ships.length : Int) by have := HD.out; omega)
              have w2_ := eq_true (show m < ships.length by have := HD.out; omega)
              have w3_ := eq_true (show (m : Int) < (list.length : Int) by omega)
              have w4_ := eq_true (show m < list.length by omega)
              have w5_ := eq_true (show (0 : Int) ≤ (m : Int) by omega)
              have hn1 : wrap64 ((list.length : Int) - 1) = (m : Int) := by have := HS3.out; have := HD.out; unfold wrap64; omega
              clear hm
              generalize rd ships (m : Int) = s2 at *
              generalize rd list (m : Int) = lx at *
              subst h1
              have h1b := beq_self_eq_true sh
              have h2b := decide_eq_true h2
              have h2c := eq_true h2
              go_wp2_with fail
              go_quiet (fail)
              go_wp2_with fail
              have hbq := pw_below_drewN (Below.refl wr.heap.size wr) nq
              go_roundg (P.length - (j + 1))
              case measure => exact HJm.out
              case rel => exact ⟨j + 1, A12, c12, HJr.out, Nat.le_refl _, by rw [HOs.out], (by first | rfl | exact congrArg (Value.int .i64) HJs.out), ⟨by rw [HOs.out]; exact Kd.N_below HN.out hbq⟩, ⟨Kd.R_below HP.out hbq⟩, ⟨blk_below HX.out hbq⟩, ⟨below_step HB.out hbq⟩⟩
            case' inr.inl =>
              rw [if_pos hok] at HOs0
              have HOs := Aside0.mk HOs0
              clear HOs0 hok
              have b1 : (Go.bits .and .i64 own used != 0) = false := by rw [hbz]; rfl
              have b2 : (Go.bits .and .i64 own used == 0) = true := by rw [hbz]; rfl
              have h0 := decide_eq_false (show ¬ (0 : Int) < (list.length : Int) by omega)
              have h0n := decide_eq_false (show ¬ 0 < list.length by omega)
              clear hl0
              go_wp2_with fail
              go_quiet (fail)
              go_wp2_with fail
            case' inr.inr.inl =>
              rw [if_pos hok] at HOs0
              have HOs := Aside0.mk HOs0
              clear HOs0 hok
              have b1 : (Go.bits .and .i64 own used != 0) = false := by rw [hbz]; rfl
              have b2 : (Go.bits .and .i64 own used == 0) = true := by rw [hbz]; rfl
              obtain ⟨adL, eL, k3⟩ := Kd.at_int (Kd.C_below (Kd.F_now HF.out) HB.out) (m : Int) (by omega) (by omega)
              subst eL
              obtain ⟨ad21, e21, k1⟩ := Kd.at_int (Kd.C_below HSh.out HB.out) (list.length : Int) (by omega) (by have := HD.out; omega)
              obtain ⟨ad22, e22, k2⟩ := Kd.at_int (Kd.C_below HSh.out HB.out) (m : Int) (by omega) (by have := HD.out; omega)
              injection e21 with e21
              injection e22 with e22
              subst e21 e22
              rw [Int.toNat_natCast] at k1 k2 k3
              rw [HSH.out] at k1 h1
              have h0 := decide_eq_true (show (0 : Int) < (list.length : Int) by omega)
              have h0n := decide_eq_true (show 0 < list.length by omega)
              have w1_ := eq_true (show (m : Int) < (ships.length : Int) by have := HD.out; omega)
              have w2_ := eq_true (show m < ships.length by have := HD.out; omega)
              have w3_ := eq_true (show (m : Int) < (list.length : Int) by omega)
              have w4_ := eq_true (show m < list.length by omega)
              have w5_ := eq_true (show (0 : Int) ≤ (m : Int) by omega)
              have hn1 : wrap64 ((list.length : Int) - 1) = (m : Int) := by have := HS3.out; have := HD.out; unfold wrap64; omega
              clear hm
              generalize rd ships (m : Int) = s2 at *
              generalize rd list (m : Int) = lx at *
              have h1b : (sh == s2) = false := beq_eq_false_iff_ne.mpr h1
              go_wp2_with fail
              go_quiet (fail)
              go_wp2_with fail
              clear h1 h1b
            case' inr.inr.inr.inr =>
              rw [if_pos hok] at HOs0
              have HOs := Aside0.mk HOs0
              clear HOs0 hok
              have b1 : (Go.bits .and .i64 own used != 0) = false := by rw [hbz]; rfl
              have b2 : (Go.bits .and .i64 own used == 0) = true := by rw [hbz]; rfl
              obtain ⟨adL, eL, k3⟩ := Kd.at_int (Kd.C_below (Kd.F_now HF.out) HB.out) (m : Int) (by omega) (by omega)
              subst eL
              obtain ⟨ad21, e21, k1⟩ := Kd.at_int (Kd.C_below HSh.out HB.out) (list.length : Int) (by omega) (by have := HD.out; omega)
              obtain ⟨ad22, e22, k2⟩ := Kd.at_int (Kd.C_below HSh.out HB.out) (m : Int) (by omega) (by have := HD.out; omega)
              injection e21 with e21
              injection e22 with e22
              subst e21 e22
              rw [Int.toNat_natCast] at k1 k2 k3
              rw [HSH.out] at k1 h1
              have h0 := decide_eq_true (show (0 : Int) < (list.length : Int) by omega)
              have h0n := decide_eq_true (show 0 < list.length by omega)
              have w1_ := eq_true (show (m : Int) < (ships.length : Int) by have := HD.out; omega)
              have w2_ := eq_true (show m < ships.length by have := HD.out; omega)
              have w3_ := eq_true (show (m : Int) < (list.length : Int) by omega)
              have w4_ := eq_true (show m < list.length by omega)
              have w5_ := eq_true (show (0 : Int) ≤ (m : Int) by omega)
              have hn1 : wrap64 ((list.length : Int) - 1) = (m : Int) := by have := HS3.out; have := HD.out; unfold wrap64; omega
              clear hm
              generalize rd ships (m : Int) = s2 at *
              generalize rd list (m : Int) = lx at *
              subst h1
              have h1b := beq_self_eq_true sh
              have h2b := decide_eq_false h2
              have h2c := eq_false h2
              go_wp2_with fail
              go_quiet (fail)
              go_wp2_with fail
              clear h1b h2 h2b h2c
            all_goals
              (try clear b1 b2)
              (try clear h0 h0n)
              (try clear hn1)
              have hbq := below_drew1 (pw_below_drewN (Below.refl wr.heap.size wr) nq)
              have HXd := Aside0.mk (blk_below HX.out hbq)
              have HNd := Aside0.mk (Kd.N_below HN.out hbq)
              have HBd := Aside0.mk (below_step HB.out hbq)
              have HPd := Aside0.mk (Kd.R_below HP.out hbq)
              have hjd := (hbq.cell (World.block_lt_of_cell? _ _ hxj)).trans hxj
              clear hbq hxj
              (try clear k1)
              (try clear k2)
              (try clear k3)
              clear HX HN HB HP hs0 hs1 hs2
              refine start_ (n := 21) (S := fun w' => w'.cell? ⟨g5, 0, none⟩ = some (.int .i64 (W0 : Int)) ∧ w'.cell? ⟨g5, 1, none⟩ = some (.int .i64 (H0 : Int)) ∧ w'.cell? ⟨g5, 2, none⟩ = some (.slice (some ad2) ships.length c2) ∧ w'.cell? (adj.add j) = some (.int .i64 own)) (ds := []) #[false, false, false, false, false, false, false, false, false, false, false, false, false, false, false, false, false, false, false, false, false] (by kernel_rfl) rfl rfl ⟨(blk_cell HXd.out 0).trans rfl, (blk_cell HXd.out 1).trans rfl, (blk_cell HXd.out 2).trans rfl, hjd⟩ (fun hHeld => ?_)
              refine with_tabW spec_l09Go.tab14 spec_l09Go.bits14 (fun HT_ HW_ => ?_)
              generalize hq_ : (wr.drewN nq).drew = wd_ at HXd HNd HBd HPd hjd hHeld ⊢
              clear hq_
              have HBr := Aside0.mk (Below.refl wd_.heap.size wd_)
              refine pure_ (i := 0) (N := some 98) (v := ?_) (a' := ?_) (flg_ 21 1) rfl rfl (any_of HT_.out (by kernel_rfl)) (fun _ _ _ h => h) (Or.inl ⟨by rfl, ?_⟩) ?_ ?_
              rotate_left
              · intro w'
                go_simp
                with_reducible rfl
              rotate_left
              · simp only [Act.put, sz_, s0_, s1_, i64_w, i32_w]
                rfl
              refine pure_ (i := 2) (N := some 100) (v := ?_) (a' := ?_) (flg_ 21 5) rfl rfl (any_of HT_.out (by kernel_rfl)) (fun _ _ _ h => h) (Or.inl ⟨by rfl, ?_⟩) ?_ ?_
              rotate_left
              · intro w'
                go_simp
                with_reducible rfl
              rotate_left
              · simp only [Act.put, sz_, s0_, s1_, i64_w, i32_w]
                rfl
              refine pure_ (i := 4) (N := some 102) (v := ?_) (a' := ?_) (flg_ 21 21) rfl rfl (any_of HT_.out (by kernel_rfl)) (fun _ _ _ h => h) (Or.inl ⟨by rfl, ?_⟩) ?_ ?_
              rotate_left
              · intro w'
                go_simp
                with_reducible rfl
              rotate_left
              · simp only [Act.put, sz_, s0_, s1_, i64_w, i32_w]
                rfl
              refine pure_ (i := 5) (N := some 103) (v := ?_) (a' := ?_) (flg_ 21 53) rfl rfl (any_of HT_.out (by kernel_rfl)) (fun _ _ _ h => h) (Or.inl ⟨by rfl, ?_⟩) ?_ ?_
              rotate_left
              · intro w'
                go_simp
                with_reducible rfl
              rotate_left
              · simp only [Act.put, sz_, s0_, s1_, i64_w, i32_w]
                rfl
              refine pure_ (i := 10) (N := some 108) (v := ?_) (a' := ?_) (flg_ 21 1077) rfl rfl (any_of HT_.out (by kernel_rfl)) (fun _ _ _ h => h) (Or.inl ⟨by rfl, ?_⟩) ?_ ?_
              rotate_left
              · intro w'
                go_simp
                with_reducible rfl
              rotate_left
              · simp only [Act.put, sz_, s0_, s1_, i64_w, i32_w]
                rfl
              refine pure_ (i := 11) (N := some 109) (v := ?_) (a' := ?_) (flg_ 21 3125) rfl rfl (any_of HT_.out (by kernel_rfl)) (fun _ _ _ h => h) (Or.inl ⟨by rfl, ?_⟩) ?_ ?_
              rotate_left
              · intro w'
                go_simp
                with_reducible rfl
              rotate_left
              · simp only [Act.put, sz_, s0_, s1_, i64_w, i32_w]
                rfl
              refine pure_ (i := 12) (N := some 110) (v := ?_) (a' := ?_) (flg_ 21 7221) rfl rfl (any_of HT_.out (by kernel_rfl)) (fun _ _ _ h => h) (Or.inl ⟨by rfl, ?_⟩) ?_ ?_
              rotate_left
              · intro w'
                go_simp
                with_reducible rfl
              rotate_left
              · simp only [Act.put, sz_, s0_, s1_, i64_w, i32_w]
                rfl
              refine pure_ (i := 16) (N := some 114) (v := ?_) (a' := ?_) (flg_ 21 72757) rfl rfl (any_of HT_.out (by kernel_rfl)) (fun _ _ _ h => h) (Or.inl ⟨by rfl, ?_⟩) ?_ ?_
              rotate_left
              · intro w'
                go_simp
                with_reducible rfl
              rotate_left
              · simp only [Act.put, sz_, s0_, s1_, i64_w, i32_w]
                rfl
              refine pure_ (i := 17) (N := some 115) (v := ?_) (a' := ?_) (flg_ 21 203829) rfl rfl (any_of HT_.out (by kernel_rfl)) (fun _ _ _ h => h) (Or.inl ⟨by rfl, ?_⟩) ?_ ?_
              rotate_left
              · intro w'
                go_simp
                with_reducible rfl
              rotate_left
              · simp only [Act.put, sz_, s0_, s1_, i64_w, i32_w]
                rfl
              refine take_ (i := 1) (N := some 99) (v := ?_) (a' := ?_) (flg_ 21 203831) rfl rfl (take_ofW HT_.out HW_.out (by kernel_rfl)) (fun _ _ _ h => h) (Or.inl ⟨by rfl, ?_⟩) hHeld ?_ ?_
              rotate_left
              · rintro w' ⟨s0_, s1_, s2_, s3_⟩
                go_simp
                with_reducible rfl
              rotate_left
              · simp only [Act.put, sz_, s0_, s1_, i64_w, i32_w]
                rfl
              refine pure_ (i := 6) (N := some 104) (v := ?_) (a' := ?_) (flg_ 21 203895) rfl rfl (any_of HT_.out (by kernel_rfl)) (fun _ _ _ h => h) (Or.inl ⟨by rfl, ?_⟩) ?_ ?_
              rotate_left
              · intro w'
                go_simp
                with_reducible rfl
              rotate_left
              · simp only [Act.put, sz_, s0_, s1_, i64_w, i32_w]
                rfl
              refine take_ (i := 7) (N := some 105) (v := ?_) (a' := ?_) (flg_ 21 204023) rfl rfl (take_ofW HT_.out HW_.out (by kernel_rfl)) (fun _ _ _ h => h) (Or.inl ⟨by rfl, ?_⟩) hHeld ?_ ?_
              rotate_left
              · rintro w' ⟨s0_, s1_, s2_, s3_⟩
                go_simp
                with_reducible rfl
              rotate_left
              · simp only [Act.put, sz_, s0_, s1_, i64_w, i32_w]
                rfl
              refine pure_ (i := 13) (N := some 111) (v := ?_) (a' := ?_) (flg_ 21 212215) rfl rfl (any_of HT_.out (by kernel_rfl)) (fun _ _ _ h => h) (Or.inl ⟨by rfl, ?_⟩) ?_ ?_
              rotate_left
              · intro w'
                go_simp
                with_reducible rfl
              rotate_left
              · simp only [Act.put, sz_, s0_, s1_, i64_w, i32_w]
                rfl
              refine take_ (i := 14) (N := some 112) (v := ?_) (a' := ?_) (flg_ 21 228599) rfl rfl (take_ofW HT_.out HW_.out (by kernel_rfl)) (fun _ _ _ h => h) (Or.inl ⟨by rfl, ?_⟩) hHeld ?_ ?_
              rotate_left
              · rintro w' ⟨s0_, s1_, s2_, s3_⟩
                go_simp
                with_reducible rfl
              rotate_left
              · simp only [Act.put, sz_, s0_, s1_, i64_w, i32_w]
                rfl
              refine pure_ (i := 15) (N := some 113) (v := ?_) (a' := ?_) (flg_ 21 261367) rfl rfl (any_of HT_.out (by kernel_rfl)) (fun _ _ _ h => h) (Or.inl ⟨by rfl, ?_⟩) ?_ ?_
              rotate_left
              · intro w'
                go_simp
                with_reducible rfl
              rotate_left
              · simp only [Act.put, sz_, s0_, s1_, i64_w, i32_w]
                rfl
              refine two_ (i := 3) (j := 8) (Ni := some 101) (Nj := some 106) (flg_ 21 261375) (flg_ 21 261623) rfl rfl rfl rfl (two_of HT_.out (by kernel_rfl)) (by decide) (by decide) (fun K hK => ?_) (fun K hK => ?_)
              focus
                refine goes_ Try.func104 (by kernel_rfl) rfl #[.slice _ list.length c] (by rfl) rfl rfl (by (try simp only [List.map_toArray, List.map_cons, List.map_nil]); first | done | rfl) ?_
                refine (spec_l01Own.calls _ c list list _ (Kd.C_below (Kd.C_below (Kd.F_now HF.out) HBd.out) HBr.out) HLc.out HOwn.out).mono ?_
                rintro e wk_ ⟨v101, rfl, ho, hb⟩
                refine ⟨_, rfl, ?_⟩
                have HV := Aside0.mk (Kd.R_lower ho (below_size HBr.out))
                clear ho
                have nB_ := Aside0.mk (below_step HBr.out hb)
                clear hb HBr
                have HBr := nB_
                clear nB_
                refine hK.out _ _ ⟨(blk_cell (blk_below HXd.out HBr.out) 0).trans rfl, (blk_cell (blk_below HXd.out HBr.out) 1).trans rfl, (blk_cell (blk_below HXd.out HBr.out) 2).trans rfl, (HBr.out.cell (World.block_lt_of_cell? _ _ hjd)).trans hjd⟩ (fun hHeld => ?_)
                clear hK K
                refine norm_ (a' := ?_) ?_ ?_
                rotate_left
                · show Act.put _ (some 101) _ = _
                  simp only [Act.put, sz_, s0_, s1_, i64_w, i32_w]
                  rfl
                refine one_ (i := 8) (N := some 106) (flg_ 21 261631) rfl rfl (one_of HT_.out (by kernel_rfl)) (by decide) (fun K hK => ?_)
                refine Kd.R_lit_step (Kd.int .i64) _ 2 ?hg (N := 106) ?hd (xs := ([own] : List Int)) (inner := [.int .i64 own]) (ok := fun _ => True) (okp := fun _ => True) ?hr ?hp (fun _ hk => hk) trivial (Below.refl _ _) (Nat.le_refl _) (by simp) ?_; (case hd => rfl); (case hg => rfl); (case hr => first | (go_simp; done) | (go_simp; rfl)); (case hp => exact (Reps.one (show Kd.M (Kd.int .i64) _ _ _ own [.int .i64 own] from rfl) (Reps.none _ _)))
                intro v106 wl_ ho hb hg_ hnew_
                clear hg_ hnew_
                have HY := Aside0.mk (Kd.R_lower ho (below_size HBr.out))
                clear ho
                have nB_ := Aside0.mk (below_step HBr.out hb)
                have nHV_ := Aside0.mk (Kd.R_below HV.out hb)
                clear hb HBr HV
                have HBr := nB_
                have HV := nHV_
                clear nB_ nHV_
                refine hK.out _ _ ⟨(blk_cell (blk_below HXd.out HBr.out) 0).trans rfl, (blk_cell (blk_below HXd.out HBr.out) 1).trans rfl, (blk_cell (blk_below HXd.out HBr.out) 2).trans rfl, (HBr.out.cell (World.block_lt_of_cell? _ _ hjd)).trans hjd⟩ (fun hHeld => ?_)
                clear hK K
                refine norm_ (a' := ?_) ?_ ?_
                rotate_left
                · show Act.put _ (some 106) _ = _
                  simp only [Act.put, sz_, s0_, s1_, i64_w, i32_w]
                  rfl
              rotate_left
              focus
                refine Kd.R_lit_step (Kd.int .i64) _ 2 ?hg (N := 106) ?hd (xs := ([own] : List Int)) (inner := [.int .i64 own]) (ok := fun _ => True) (okp := fun _ => True) ?hr ?hp (fun _ hk => hk) trivial (Below.refl _ _) (Nat.le_refl _) (by simp) ?_; (case hd => rfl); (case hg => rfl); (case hr => first | (go_simp; done) | (go_simp; rfl)); (case hp => exact (Reps.one (show Kd.M (Kd.int .i64) _ _ _ own [.int .i64 own] from rfl) (Reps.none _ _)))
                intro v106 wl_ ho hb hg_ hnew_
                clear hg_ hnew_
                have HY := Aside0.mk (Kd.R_lower ho (below_size HBr.out))
                clear ho
                have nB_ := Aside0.mk (below_step HBr.out hb)
                clear hb HBr
                have HBr := nB_
                clear nB_
                refine hK.out _ _ ⟨(blk_cell (blk_below HXd.out HBr.out) 0).trans rfl, (blk_cell (blk_below HXd.out HBr.out) 1).trans rfl, (blk_cell (blk_below HXd.out HBr.out) 2).trans rfl, (HBr.out.cell (World.block_lt_of_cell? _ _ hjd)).trans hjd⟩ (fun hHeld => ?_)
                clear hK K
                refine norm_ (a' := ?_) ?_ ?_
                rotate_left
                · show Act.put _ (some 106) _ = _
                  simp only [Act.put, sz_, s0_, s1_, i64_w, i32_w]
                  rfl
                refine one_ (i := 3) (N := some 101) (flg_ 21 261631) rfl rfl (one_of HT_.out (by kernel_rfl)) (by decide) (fun K hK => ?_)
                refine goes_ Try.func104 (by kernel_rfl) rfl #[.slice _ list.length c] (by rfl) rfl rfl (by (try simp only [List.map_toArray, List.map_cons, List.map_nil]); first | done | rfl) ?_
                refine (spec_l01Own.calls _ c list list _ (Kd.C_below (Kd.C_below (Kd.F_now HF.out) HBd.out) HBr.out) HLc.out HOwn.out).mono ?_
                rintro e wk_ ⟨v101, rfl, ho, hb⟩
                refine ⟨_, rfl, ?_⟩
                have HV := Aside0.mk (Kd.R_lower ho (below_size HBr.out))
                clear ho
                have nB_ := Aside0.mk (below_step HBr.out hb)
                have nHY_ := Aside0.mk (Kd.R_below HY.out hb)
                clear hb HBr HY
                have HBr := nB_
                have HY := nHY_
                clear nB_ nHY_
                refine hK.out _ _ ⟨(blk_cell (blk_below HXd.out HBr.out) 0).trans rfl, (blk_cell (blk_below HXd.out HBr.out) 1).trans rfl, (blk_cell (blk_below HXd.out HBr.out) 2).trans rfl, (HBr.out.cell (World.block_lt_of_cell? _ _ hjd)).trans hjd⟩ (fun hHeld => ?_)
                clear hK K
                refine norm_ (a' := ?_) ?_ ?_
                rotate_left
                · show Act.put _ (some 101) _ = _
                  simp only [Act.put, sz_, s0_, s1_, i64_w, i32_w]
                  rfl
              all_goals
                obtain ⟨A106, c106, e106⟩ := Kd.R_slice HY.out
                subst e106
                refine one_ (i := 9) (N := some 107) (flg_ 21 262143) rfl rfl (one_of HT_.out (by kernel_rfl)) (by decide) (fun K hK => ?_)
                refine Kd.R_append_rows_step (Kd.int .i64) (w0 := wd_) wd_.heap.size (by rfl) (.tmp 101) (.tmp 106) 22 2 (.int .i64 0) 8 rfl Try.underlying22 info2 rfl (by decide) (by omega) v101 list [own] _ _ _ (fun _ => True) (fun _ => False) rfl rfl HV.out (Kd.R_reads' HY.out).2.2 (fun _ _ h => h) (fun _ h => h.elim) (fun _ _ => trivial) HBr.out (below_size HBr.out) HRoom.out ?_
                intro v107 wp_ ho hb hg hat
                have HA := Aside0.mk ho
                have nB_ := Aside0.mk hb
                clear ho hb hg hat HBr HV HY
                have HBr := nB_
                clear nB_
                obtain ⟨A107, c107, e107⟩ := Kd.R_slice HA.out
                subst e107
                refine hK.out _ _ ⟨(blk_cell (blk_below HXd.out HBr.out) 0).trans rfl, (blk_cell (blk_below HXd.out HBr.out) 1).trans rfl, (blk_cell (blk_below HXd.out HBr.out) 2).trans rfl, (HBr.out.cell (World.block_lt_of_cell? _ _ hjd)).trans hjd⟩ (fun hHeld => ?_)
                clear hK K
                refine norm_ (a' := ?_) ?_ ?_
                rotate_left
                · show Act.put _ (some 107) _ = _
                  simp only [Act.put, sz_, s0_, s1_, i64_w, i32_w]
                  rfl
                refine one_ (i := 18) (N := some 116) (flg_ 21 524287) rfl rfl (one_of HT_.out (by kernel_rfl)) (by decide) (fun K hK => ?_)
                refine goes_ Try.func64 (by kernel_rfl) rfl #[.agg #[.int .i64 (W0 : Int), .int .i64 (H0 : Int), .slice (some ad2) ships.length c2], .slice A107 (list ++ [own]).length c107, .int .i64 (Go.bits .or .i64 used own), .slice A3 T.length c3, .int .i64 rest] (by rfl) rfl rfl (by (try simp only [List.map_toArray, List.map_cons, List.map_nil]); first | done | rfl) ?_
                refine (HIH.out (list ++ [own]) (Go.bits .or .i64 used own) rest A107 c107 (fun k => wd_.heap.size ≤ k) wp_ HLen.out HIn.out HRest.out (Kd.F_mono (Kd.R_F (Kd.R_tight rfl HA.out)) (fun k hk => Kd.R_base HA.out k hk.symm)) (Kd.R_reads' HA.out).2.1 (Kd.C_below (Kd.C_below HT.out HBd.out) HBr.out) (Kd.C_below (Kd.C_below HSh.out HBd.out) HBr.out)).mono ?_
                rintro e wf_ ⟨v116, rfl, ho, hb⟩
                refine ⟨_, rfl, ?_⟩
                obtain ⟨A116, c116, e116⟩ := Kd.N_slice ho
                subst e116
                rw [HFv.out] at ho
                have HR := Aside0.mk (Kd.N_F (Kd.N_mono (ok' := fun k => wd_.heap.size ≤ k) ho (fun k hk => hk.elim id (fun h => Nat.le_trans (below_size HBr.out) h))))
                have nB_ := Aside0.mk (below_step HBr.out hb)
                clear ho hb HBr HA
                have HBr := nB_
                clear nB_
                refine hK.out _ _ ⟨(blk_cell (blk_below HXd.out HBr.out) 0).trans rfl, (blk_cell (blk_below HXd.out HBr.out) 1).trans rfl, (blk_cell (blk_below HXd.out HBr.out) 2).trans rfl, (HBr.out.cell (World.block_lt_of_cell? _ _ hjd)).trans hjd⟩ (fun hHeld => ?_)
                clear hK K
                refine norm_ (a' := ?_) ?_ ?_
                rotate_left
                · show Act.put _ (some 116) _ = _
                  simp only [Act.put, sz_, s0_, s1_, i64_w, i32_w]
                  rfl
                refine one_ (i := 19) (N := some 117) (flg_ 21 1048575) rfl rfl (one_of HT_.out (by kernel_rfl)) (by decide) (fun K hK => ?_)
                refine Kd.N_append_rows_step (Kd.slice 2 (Kd.int .i64)) (w0 := w) w.heap.size (by rfl) (.tmp 98) (.tmp 116) 42 22 (.slice none 0 0) 24 rfl Try.underlying42 info22 rfl (by decide) (by omega) (.slice A12 ol.length c12) ol fls A116 fls.length c116 (fun k => okL k ∨ w.heap.size ≤ k) (fun k => wd_.heap.size ≤ k) (by rfl) (by first | rfl | (rw [← HFv.out]; rfl)) (Kd.N_below HNd.out HBr.out) HR.out (fun k hk => ⟨.inr (Nat.le_trans (below_size HBd.out) hk), fun e_ => by have := Kd.N_lt HNd.out k e_.symm; omega⟩) (fun k hk => .inr (Nat.le_trans (Nat.le_trans (below_size HBd.out) (below_size HBr.out)) hk)) (below_step HBd.out HBr.out) (Nat.le_trans (below_size HBd.out) (below_size HBr.out)) HCap.out ?_
                intro v117 wg_ ho hb hg hat
                obtain ⟨A117, c117, e117⟩ := Kd.N_slice ho
                subst e117
                have HX := Aside0.mk ((hg.block _ (blk_lt (blk_below HXd.out HBr.out)) (Kd.N_ne (Kd.N_below HNd.out HBr.out) (blk_below HXd.out HBr.out) (by decide))).trans (blk_below HXd.out HBr.out))
                have HP := Aside0.mk (Kd.R_over' (e' := 22) (Kd.R_below HPd.out HBr.out) (Kd.N_typed (Kd.N_below HNd.out HBr.out)) (by decide) hg)
                have HN := Aside0.mk ho
                have HB := Aside0.mk hb
                clear ho hb hg hat HBr HR HXd HNd HBd HPd hjd
                obtain ⟨adk, ek, hxk⟩ := Kd.at_int (Kd.R_reads' HP.out).2.2 (j : Int) HJ0.out HJ1.out
                cases ek
                rw [Int.toNat_natCast, HRd.out] at hxk
                refine hK.out _ _ ⟨(blk_cell HX.out 0).trans rfl, (blk_cell HX.out 1).trans rfl, (blk_cell HX.out 2).trans rfl, hxk⟩ (fun hHeld => ?_)
                clear hK K hxk
                refine norm_ (a' := ?_) ?_ ?_
                rotate_left
                · show Act.put _ (some 117) _ = _
                  simp only [Act.put, sz_, s0_, s1_, i64_w, i32_w]
                  rfl
                refine pure_ (i := 20) (N := some 12) (v := ?_) (a' := ?_) (flg_ 21 2097151) rfl rfl (any_of HT_.out (by kernel_rfl)) (fun _ _ _ h => h) (Or.inl ⟨by rfl, ?_⟩) ?_ ?_
                rotate_left
                · intro w'
                  go_simp
                  with_reducible rfl
                rotate_left
                · simp only [Act.put, sz_, s0_, s1_, i64_w, i32_w]
                  rfl
                refine done_ (done_of HT_.out (by kernel_rfl)) ?_
                go_wp2_with fail
                go_roundg (P.length - (j + 1))
                case measure => exact HJm.out
                case rel => exact ⟨j + 1, A117, c117, HJr.out, Nat.le_refl _, by rw [HOs.out, List.length_append], (by first | rfl | exact congrArg (Value.int .i64) HJs.out), ⟨by rw [HOs.out]; exact HN.out⟩, HP, HX, HB⟩
          · have HE := Aside0.mk (show O P.length = ol by rw [← hol]; exact HOK.out j hj (by omega) (by rw [hol]; omega))
            have m1 := decide_eq_false hneg
            have m2 := eq_false hneg
            have m5 := decide_eq_false hml
            have m6 := eq_false hml
            go_wp2_with fail
            go_ret
            exact ⟨_, rfl, by rw [HE.out]; exact HN.out, HB.out⟩
      · have hje : j = P.length := by omega
        subst hje
        have q1 := decide_eq_false (show ¬ (P.length : Int) < (P.length : Int) by omega)
        go_wp2_with fail
        go_ret
        exact ⟨_, rfl, HN.out, HB.out⟩
/-! ### spec_l09Cells: function 69 -/
def spec_l09Cells.l0 : Nat → Int → List Int → Int → Option (List Int)
 | 0, _, _, _ => none
 | k + 1, x0, x3, x4 => if x4 < 25 then (if 0 ≤ (IntKind.u64.wrap (x4)) then (if (Go.bits .and .i64 (shr .i64 x0 (IntKind.u64.wrap (x4))) 1) = 1 then (if x3.length < 17592186044416 then (spec_l09Cells.l0 k x0 (x3 ++ [x4]) (wrap64 (x4 + 1))) else (none)) else (spec_l09Cells.l0 k x0 x3 (wrap64 (x4 + 1)))) else (none)) else (some x3)
def spec_l09Cells.f (k : Nat) (a0 : Int) : Option (List Int) := spec_l09Cells.l0 k a0 (([] : List Int)) 0
set_option maxHeartbeats 8000000 in
set_option maxRecDepth 100000 in
theorem spec_l09Cells.calls (k : Nat) (a0 : Int) (r : List Int) (w : World) (h : spec_l09Cells.f k a0 = some r) :
  Calls Try.prog 69 #[.int .i64 a0] w fun e w' => ∃ v0_ : Value, e = .returned (v0_) ∧ Kd.R (Kd.int .i64) 2 w' w.heap.size (fun _ => True) v0_ r ∧ Below w.heap.size w w' := by
 have HB := Aside0.mk (Below.refl w.heap.size w)
 have H : (spec_l09Cells.l0 k a0 (([] : List Int)) 0) = some r := h
 clear h
 obtain ⟨y513, hy513⟩ : ∃ y_ : List Int, y_ = (([] : List Int)) := ⟨_, rfl⟩
 replace H : (spec_l09Cells.l0 k a0 y513 0) = some r := by first | (rw [hy513]; with_reducible exact H) | (have H2_ := (Option.bind_some _ _).symm.trans H; rw [hy513]; with_reducible exact H2_) | (have H2_ := (Option.bind_some _ _).symm.trans H; with_reducible exact H2_) | with_reducible exact H | (rw [hy513]; exact H) | exact H
 have Ny513 := Aside0.mk hy513
 clear hy513
 have H' := Aside0.mk H
 clear H
 go_enter Try.func69, Try.ntmps69
 go_wp2_with (first | ((with_reducible refine gate_dst (N := 5) rfl ?_); refine Kd.R_lit (Kd.int .i64) _ 2 ?hg (N := 5) ?hd (xs := ([] : List Int)) (inner := []) (ok := fun _ => True) (okp := fun _ => True) ?hr ?hp (fun _ hk => hk) trivial (Below.refl _ _) (Nat.le_refl _) (by simp) ?_; (case hd => rfl); (case hg => rfl); (case hr => first | (go_simp; done) | (go_simp; rfl)); (case hp => exact (Reps.none _ _)); intro v514 w2 ho3 hb hg_ hnew_; clear hg_ hnew_; (first | rw [← Ny513.out] at ho3 | (simp only [Int.reduceToNat] at ho3; rw [← Ny513.out] at ho3)); have n0_ := Aside0.mk (Kd.R_lower ho3 (below_size hb_)); have n1_ := Aside0.mk (below_step hb_ hb); clear HB; have HO515 := n0_; have HB := n1_; clear n0_ n1_; clear hb ho3))
 go_loopg [3, 4] k (fun kq v3 v4 w' => ∃ (x3_1 : List Int) (x4_1 : Int), v4 = .int .i64 x4_1 ∧ Aside0 (spec_l09Cells.l0 kq a0 x3_1 x4_1 = some r) ∧ Aside0 (kq ≤ k) ∧ Aside0 (Kd.R (Kd.int .i64) 2 w' w.heap.size (fun _ => True) v3 x3_1) ∧ Aside0 (Below w.heap.size w w'))
 case atStart => exact ⟨(y513), (0), (by first | rfl | (simp; done) | (simp [*]; done)), H', ⟨Nat.le_refl _⟩, ⟨by (with_reducible repeat (first | apply Kd.R_alloc | apply Kd.R_drewN | apply Kd.R_drew)); exact HO515.out⟩, ⟨by repeat (first | (with_reducible first | exact HB.out | apply below_alloc | apply pw_below_drewN | apply below_drew1) | exact HB.out)⟩⟩
 case round =>
  clear H'
  (try clear p2)
  obtain ⟨x3_1, x4_1, rfl, HA, HK1, HO_3, HB⟩ := hrel
  cases gk with
  | zero => exact absurd HA.out (by simp [spec_l09Cells.l0])
  | succ k1 =>
   have H := HA.out
   clear HA
   simp only [spec_l09Cells.l0] at H
   by_cases c4 : x4_1 < 25
   ·rw [if_pos c4] at H
    have c4b0 : decide (x4_1 < 25) = true := decide_eq_true c4
    clear c4
    obtain ⟨ji5, hji5⟩ : ∃ j_ : Int, (IntKind.u64.wrap (x4_1)) = j_ := ⟨_, rfl⟩
    replace H : (if 0 ≤ (ji5) then (if (Go.bits .and .i64 (shr .i64 a0 (ji5)) 1) = 1 then (if x3_1.length < 17592186044416 then (spec_l09Cells.l0 k1 a0 (x3_1 ++ [x4_1]) (wrap64 (x4_1 + 1))) else (none)) else (spec_l09Cells.l0 k1 a0 x3_1 (wrap64 (x4_1 + 1)))) else (none)) = some r := by first | (rw [hji5] at H; exact H) | (simp only [hji5] at H ⊢; exact H)
    by_cases c6 : 0 ≤ (ji5)
    ·rw [if_pos c6] at H
     have c6b0 := eq_true c6
     have c6b1 : decide (0 ≤ (ji5)) = true := decide_eq_true c6
     clear c6
     obtain ⟨ji7, hji7⟩ : ∃ j_ : Int, (shr .i64 a0 (ji5)) = j_ := ⟨_, rfl⟩
     replace H : (if (Go.bits .and .i64 (ji7) 1) = 1 then (if x3_1.length < 17592186044416 then (spec_l09Cells.l0 k1 a0 (x3_1 ++ [x4_1]) (wrap64 (x4_1 + 1))) else (none)) else (spec_l09Cells.l0 k1 a0 x3_1 (wrap64 (x4_1 + 1)))) = some r := by first | (rw [hji7] at H; exact H) | (simp only [hji7] at H ⊢; exact H)
     have hji7_ : (a0 / 2 ^ min (ji5).toNat 64) = ji7 := hji7
     have hji7z : (ji5) ≤ 64 → (a0 / 2 ^ (ji5).toNat) = ji7 := shr_small hji7
     by_cases c8 : (Go.bits .and .i64 (ji7) 1) = 1
     ·rw [if_pos c8] at H
      have c8b0 : ((Go.bits .and .i64 (ji7) 1) == 1) = true := beq_iff_eq.mpr c8
      have c8b1 : ((Go.bits .and .i64 (ji7) 1) != 1) = false := bne_eq_false_iff_eq.mpr c8
      clear c8
      by_cases c9 : x3_1.length < 17592186044416
      ·rw [if_pos c9] at H
       have LMc9 := Aside0.mk c9
       clear c9
       obtain ⟨y516, hy516⟩ : ∃ y_ : List Int, y_ = (x3_1 ++ [x4_1]) := ⟨_, rfl⟩
       replace H : (spec_l09Cells.l0 k1 a0 y516 (wrap64 (x4_1 + 1))) = some r := by first | (rw [hy516]; with_reducible exact H) | (have H2_ := (Option.bind_some _ _).symm.trans H; rw [hy516]; with_reducible exact H2_) | (have H2_ := (Option.bind_some _ _).symm.trans H; with_reducible exact H2_) | with_reducible exact H | (rw [hy516]; exact H) | exact H
       have Ny516 := Aside0.mk hy516
       clear hy516
       have H' := Aside0.mk H
       clear H
       go_wp2_with (first | ((with_reducible refine gate_builtin (b := .append) (xs := #[.tmp 16, .tmp 18]) rfl ?_); at_builtin; refine Kd.R_append (Kd.int .i64) (w0 := w) w.heap.size rfl (.tmp 16) (.tmp 18) 22 2 (.int .i64 0) 8 rfl Try.underlying22 info2 rfl (by decide) (by omega) u3 x3_1 x4_1 [.int .i64 x4_1] (fun _ => True) (fun _ => False) rfl rfl ?aP (fun _ hk => hk.elim) ?aF ?aO ?aB ?aS ?aL ?_; (case aP => exact rfl); (case aB => exact hb_); (case aF => exact (fun _ _ => trivial)); (case aO => exact (by (with_reducible repeat (first | apply Kd.R_alloc | apply Kd.R_drewN | apply Kd.R_drew)); exact HO_3.out)); (case aS => exact (below_size hb_)); (case aL => have := LMc9.out; omega); intro v517 w10 ho hb hg hat; rw [← Ny516.out] at ho; have n0_ := Aside0.mk (hb); have n1_ := Aside0.mk (ho); clear HB; clear HO_3; have HB := n0_; have HO518 := n1_; clear n0_ n1_; clear ho hb hg hat))
       go_roundg k1
       case measure => have := HK1.out; omega
       case rel => exact ⟨(y516), (wrap64 (x4_1 + 1)), (by first | rfl | (simp; done) | (simp [*]; done)), H', ⟨by have := HK1.out; omega⟩, ⟨by (with_reducible repeat (first | apply Kd.R_alloc | apply Kd.R_drewN | apply Kd.R_drew)); exact HO518.out⟩, ⟨by repeat (first | (with_reducible first | exact HB.out | apply below_alloc | apply pw_below_drewN | apply below_drew1) | exact HB.out)⟩⟩
      ·rw [if_neg c9] at H
       exact absurd H (by simp)
     ·rw [if_neg c8] at H
      have c8b0 : ((Go.bits .and .i64 (ji7) 1) == 1) = false := beq_eq_false_iff_ne.mpr c8
      have c8b1 : ((Go.bits .and .i64 (ji7) 1) != 1) = true := bne_iff_ne.mpr c8
      have H' := Aside0.mk H
      clear H
      go_wp2
      go_roundg k1
      case measure => have := HK1.out; omega
      case rel => exact ⟨(x3_1), (wrap64 (x4_1 + 1)), (by first | rfl | (simp; done) | (simp [*]; done)), H', ⟨by have := HK1.out; omega⟩, ⟨by (with_reducible repeat (first | apply Kd.R_alloc | apply Kd.R_drewN | apply Kd.R_drew)); exact HO_3.out⟩, ⟨by repeat (first | (with_reducible first | exact HB.out | apply below_alloc | apply pw_below_drewN | apply below_drew1) | exact HB.out)⟩⟩
    ·rw [if_neg c6] at H
     exact absurd H (by simp)
   ·rw [if_neg c4] at H
    have c4b0 : decide (x4_1 < 25) = false := decide_eq_false c4
    clear c4
    obtain rfl := Option.some.inj H
    go_wp2
    go_ret
    exact ⟨_, by first | rfl | (simp [errW_none, errW_some] <;> rfl) | (simp [*, errW_none, errW_some] <;> rfl), by (with_reducible repeat (first | apply Kd.R_alloc | apply Kd.R_drewN | apply Kd.R_drew)); exact HO_3.out, by repeat (first | (with_reducible first | exact HB.out | apply below_alloc | apply pw_below_drewN | apply below_drew1) | exact HB.out)⟩
/-! ### spec_l09Set: function 70 -/
def spec_l09Set.l0 : Nat → List Int → Int → Int → Option (Int)
 | 0, _, _, _ => none
 | k + 1, x0, x3, x4 => if x4 < (x0.length : Int) then (if 0 ≤ x4 then (spec_l09Set.l0 k x0 (Go.bits .or .i64 x3 (rd x0 x4)) (wrap64 (x4 + 1))) else (none)) else (some x3)
def spec_l09Set.f (k : Nat) (l0 : List Int) : Option (Int) := spec_l09Set.l0 k l0 0 0
set_option maxHeartbeats 8000000 in
set_option maxRecDepth 100000 in
theorem spec_l09Set.calls (k : Nat) (A0 : Option Addr) (c0 : Nat) (l0 : List Int) (r : Int) (w : World) (hr0 : Kd.C (Kd.int .i64) w A0 l0.length l0) (hc0 : l0.length ≤ c0) (h : spec_l09Set.f k l0 = some r) :
  Calls Try.prog 70 #[.slice A0 l0.length c0] w fun e w' => e = .returned (.int .i64 r) ∧ Drawn0 w w' := by
 have HR0 := Aside0.mk hr0
 have HC0 := Aside0.mk hc0
 clear hr0 hc0
 have H : (spec_l09Set.l0 k l0 0 0) = some r := h
 clear h
 have H' := Aside0.mk H
 clear H
 go_enter Try.func70, Try.ntmps70
 go_wp2
 go_loopg [3, 4] k (fun kq v3 v4 w' => ∃ (x3_1 : Int) (x4_1 : Int), v3 = .int .i64 x3_1 ∧ v4 = .int .i64 x4_1 ∧ Aside0 (spec_l09Set.l0 kq l0 x3_1 x4_1 = some r) ∧ Aside0 (kq ≤ k) ∧ Drawn0 w w')
 case atStart => exact ⟨(0), (0), (by first | rfl | (simp; done) | (simp [*]; done)), (by first | rfl | (simp; done) | (simp [*]; done)), H', ⟨Nat.le_refl _⟩, by repeat (first | exact Drawn0.refl _ | apply Drawn0.step)⟩
 case round =>
  clear H'
  obtain ⟨x3_1, x4_1, rfl, rfl, HA, HK1, ⟨m1, rfl⟩⟩ := hrel
  cases gk with
  | zero => exact absurd HA.out (by simp [spec_l09Set.l0])
  | succ k1 =>
   have H := HA.out
   clear HA
   simp only [spec_l09Set.l0] at H
   by_cases c2 : x4_1 < (l0.length : Int)
   ·rw [if_pos c2] at H
    have c2b0 : decide (x4_1 < (l0.length : Int)) = true := decide_eq_true c2
    clear c2
    by_cases c3 : 0 ≤ x4_1
    ·rw [if_pos c3] at H
     have c3b0 : decide (0 ≤ x4_1) = true := decide_eq_true c3
     clear c3
     have H' := Aside0.mk H
     clear H
     have p519 : 0 ≤ (x4_1 : Int) := oda
     have q519 : x4_1 < (l0.length : Int) := oda
     obtain ⟨ad519, e519, hx519_0⟩ := Kd.at_int HR0.out x4_1 p519 q519
     cases e519
     replace p519 := eq_true p519
     replace q519 := eq_true q519
     go_wp2
     go_roundg k1
     case measure => have := HK1.out; omega
     case rel => exact ⟨(Go.bits .or .i64 x3_1 (rd l0 x4_1)), (wrap64 (x4_1 + 1)), (by first | rfl | (simp; done) | (simp [*]; done)), (by first | rfl | (simp; done) | (simp [*]; done)), H', ⟨by have := HK1.out; omega⟩, by repeat (first | exact Drawn0.refl _ | apply Drawn0.step)⟩
    ·rw [if_neg c3] at H
     exact absurd H (by simp)
   ·rw [if_neg c2] at H
    have c2b0 : decide (x4_1 < (l0.length : Int)) = false := decide_eq_false c2
    clear c2
    obtain rfl := Option.some.inj H
    go_wp2
    go_ret
    exact ⟨by first | rfl | (simp; done) | (simp [*]; done), by repeat (first | exact Drawn0.refl _ | apply Drawn0.step)⟩
-- The set of a fleet's cells.
def orAll (l : List Int) : Int := l.foldl (fun a x => Go.bits .or .i64 a x) 0
def orFrom (l : List Int) : Int → Nat → Nat → Int
  | a, _, 0 => a
  | a, i, d + 1 => orFrom l (Go.bits .or .i64 a (rd l (i : Int))) (i + 1) d
theorem orFrom_fold (l : List Int) : ∀ (d i : Nat) (a : Int), i + d = l.length → orFrom l a i d = (l.drop i).foldl (fun a x => Go.bits .or .i64 a x) a
  | 0, i, a, h => by
    rw [List.drop_eq_nil_of_le (by omega)]; rfl
  | d + 1, i, a, h => by
    have hi : i < l.length := by omega
    rw [List.drop_eq_getElem_cons hi, List.foldl_cons, ← orFrom_fold l d (i + 1) _ (by omega), ← rd_get l i hi]
    rfl
theorem orFrom_all (l : List Int) : orFrom l 0 0 l.length = orAll l := by
  rw [orFrom_fold l l.length 0 0 (by omega), List.drop_zero]; rfl
theorem orAll_nat {b : Nat} (hb : b ≤ 25) : ∀ (l : List Int) (a : Nat), a < 2 ^ b → (∀ x ∈ l, ∃ m : Nat, x = (m : Int) ∧ m < 2 ^ b) → ∃ M : Nat, l.foldl (fun a x => Go.bits .or .i64 a x) (a : Int) = (M : Int) ∧ M < 2 ^ b
  | [], a, ha, _ => ⟨a, rfl, ha⟩
  | x :: l, a, ha, h => by
    obtain ⟨m, rfl, hm⟩ := h x (List.mem_cons_self ..)
    have h25 : 2 ^ b ≤ 33554432 := Nat.le_trans (Nat.pow_le_pow_right (by omega) hb) (by simp)
    have e := bits_or_nat a m (Nat.lt_of_lt_of_le ha (Nat.le_trans h25 pow25_le)) (Nat.lt_of_lt_of_le hm (Nat.le_trans h25 pow25_le))
    rw [List.foldl_cons, e]
    exact orAll_nat hb l (a ||| m) (Nat.or_lt_two_pow ha hm) (fun y hy => h y (List.mem_cons_of_mem _ hy))
theorem specSet_ev (l : List Int) (hl : l.length ≤ 1000) : Ev (fun k => spec_l09Set.f k l) (orAll l) := by
  unfold spec_l09Set.f
  rw [← orFrom_all]
  have key : ∀ (d i : Nat) (a : Int), i + d = l.length → Ev (fun k => spec_l09Set.l0 k l a i) (orFrom l a i d) := by
    intro d
    induction d with
    | zero =>
      intro i a hi
      refine Ev.step (f := fun _ => some a) (fun k => ?_) (Ev.now _)
      simp only [spec_l09Set.l0]
      rw [if_neg (by omega)]
    | succ d ih =>
      intro i a hi
      have c1 : (i : Int) < (l.length : Int) := by omega
      have c2 : (0 : Int) ≤ (i : Int) := by omega
      have hw := wrap_one (a := i) (by omega)
      refine Ev.step (fun k => ?_) (ih (i + 1) _ (by omega))
      simp only [spec_l09Set.l0]
      rw [if_pos c1, if_pos c2, hw]
  exact key l.length 0 0 (by omega)
theorem implWhole_ev (l : List Int) (hl : l.length ≤ 1000) : Ev (fun k => impl_whole.f k l) (orAll l) := by
  unfold impl_whole.f
  rw [← orFrom_all]
  have key : ∀ (d i : Nat) (a : Int), i + d = l.length → Ev (fun k => impl_whole.l0 k a l l.length i) (orFrom l a i d) := by
    intro d
    induction d with
    | zero =>
      intro i a hi
      refine Ev.step (f := fun _ => some a) (fun k => ?_) (Ev.now _)
      simp only [impl_whole.l0]
      rw [if_neg (by omega)]
    | succ d ih =>
      intro i a hi
      have c1 : (i : Int) < (l.length : Int) := by omega
      have c2 : (0 : Int) ≤ (i : Int) := by omega
      have hw := wrap_one (a := i) (by omega)
      refine Ev.step (fun k => ?_) (ih (i + 1) _ (by omega))
      simp only [impl_whole.l0]
      rw [if_pos c1, if_pos c2, if_pos c1, hw]
  exact key l.length 0 0 (by omega)
theorem specCells_ev (V : Int) : Ev (fun k => spec_l09Cells.f k V) (chosenTo (bitIn V) 25) := by
  unfold spec_l09Cells.f
  have key : ∀ (d i : Nat), i + d = 25 → Ev (fun k => spec_l09Cells.l0 k V (chosenTo (bitIn V) i) i) (chosenTo (bitIn V) 25) := by
    intro d
    induction d with
    | zero =>
      intro i hi
      have e : i = 25 := by omega
      subst e
      refine Ev.step (f := fun _ => some _) (fun k => ?_) (Ev.now _)
      simp only [spec_l09Cells.l0]
      rw [if_neg (by omega)]
    | succ d ih =>
      intro i hi
      have c1 : (i : Int) < 25 := by omega
      have c2 : (0 : Int) ≤ (i : Int) := by omega
      have hle := chosenTo_le (bitIn V) i
      have c3 : (chosenTo (bitIn V) i).length < 17592186044416 := by omega
      have hw := wrap_one (a := i) (by omega)
      have hu := u64_nat i (by omega)
      refine Ev.step (fun k => ?_) (ih (i + 1) (by omega))
      simp only [spec_l09Cells.l0]
      rw [if_pos c1, hu, if_pos c2, hw]
      have hs : chosenTo (bitIn V) (i + 1) = if bitIn V (i : Int) = true then chosenTo (bitIn V) i ++ [(i : Int)] else chosenTo (bitIn V) i := rfl
      rw [hs]
      by_cases hb : Go.bits .and .i64 (shr .i64 V (i : Int)) 1 = 1
      · have : bitIn V (i : Int) = true := beq_iff_eq.2 hb
        rw [if_pos hb, if_pos c3, if_pos this]
      · have : ¬ bitIn V (i : Int) = true := fun h => hb (beq_iff_eq.1 h)
        rw [if_neg hb, if_neg this]
  exact key 25 0 (by omega)
theorem bitIn_high {M b c : Nat} (hM : M < 2 ^ b) (hb : b ≤ 25) (hc : b ≤ c) (hc64 : c ≤ 64) : bitIn (M : Int) (c : Int) = false := by
  unfold bitIn
  have h25 : 2 ^ b ≤ 33554432 := Nat.le_trans (Nat.pow_le_pow_right (by omega) hb) (by simp)
  rw [bit_nat M c (Nat.lt_of_lt_of_le hM (Nat.le_trans h25 pow25_le)) hc64]
  have : M.testBit c = false := Nat.testBit_lt_two_pow (Nat.lt_of_lt_of_le hM (Nat.pow_le_pow_right (by omega) hc))
  rw [this]; rfl
-- Shares: how many of the fleets have a cell. (for 75)
-- orAll bitIn chosen_iff
def shareAt (done : List (List Int)) (c : Nat) : Int := ((done.filter fun fl => bitIn (orAll fl) (c : Int)).length : Int)
def sharesV (N : Nat) (done : List (List Int)) : List Int := (List.range N).map (shareAt done)
/-- The row while a fleet is added: the cells before j have it. -/
def shareRow (N : Nat) (done : List (List Int)) (fl : List Int) (j : Nat) : List Int := (List.range N).map fun c => if c < j then shareAt (done ++ [fl]) c else shareAt done c
/-- The row while a fleet is added by its cells: those in cs have it. -/
def shareSome (N : Nat) (done : List (List Int)) (cs : List Int) : List Int := (List.range N).map fun c => shareAt done c + if (c : Int) ∈ cs then 1 else 0
theorem shareAt_bound (done : List (List Int)) (c : Nat) : 0 ≤ shareAt done c ∧ shareAt done c ≤ (done.length : Int) := by
  unfold shareAt
  have := List.length_filter_le (fun fl => bitIn (orAll fl) (c : Int)) done
  omega
theorem shareAt_snoc (done : List (List Int)) (fl : List Int) (c : Nat) : shareAt (done ++ [fl]) c = shareAt done c + if bitIn (orAll fl) (c : Int) = true then 1 else 0 := by
  unfold shareAt
  rw [List.filter_append, List.length_append]
  by_cases h : bitIn (orAll fl) (c : Int) = true
  · rw [if_pos h]; simp [h]
  · rw [if_neg h]; simp [h]
theorem sharesV_len (N : Nat) (done : List (List Int)) : (sharesV N done).length = N := by simp [sharesV]
theorem shareRow_len (N : Nat) (done : List (List Int)) (fl : List Int) (j : Nat) : (shareRow N done fl j).length = N := by simp [shareRow]
theorem shareSome_len (N : Nat) (done : List (List Int)) (cs : List Int) : (shareSome N done cs).length = N := by simp [shareSome]
theorem shareRow_zero (N : Nat) (done : List (List Int)) (fl : List Int) : shareRow N done fl 0 = sharesV N done := by
  unfold shareRow sharesV
  exact List.map_congr_left (fun c _ => by rw [if_neg (by omega)])
theorem shareRow_all (N : Nat) (done : List (List Int)) (fl : List Int) : shareRow N done fl N = sharesV N (done ++ [fl]) := by
  unfold shareRow sharesV
  exact List.map_congr_left (fun c h => by rw [if_pos (List.mem_range.1 h)])
theorem sharesV_nil (N : Nat) : sharesV N [] = List.replicate N 0 := by
  unfold sharesV
  refine List.ext_getElem (by simp) (fun i h1 h2 => ?_)
  simp [shareAt]
theorem shareRow_rd {N : Nat} (done : List (List Int)) (fl : List Int) {j : Nat} (h : j < N) : rd (shareRow N done fl j) (j : Int) = shareAt done j := by
  rw [rd_get _ _ (by rw [shareRow_len]; exact h)]
  simp [shareRow]
theorem shareRow_set {N : Nat} (done : List (List Int)) (fl : List Int) {j : Nat} (h : j < N) : (shareRow N done fl j).set j (shareAt (done ++ [fl]) j) = shareRow N done fl (j + 1) := by
  refine List.ext_getElem (by simp [shareRow]) (fun i h1 h2 => ?_)
  rw [List.getElem_set]
  by_cases e : j = i
  · subst e
    simp [shareRow]
  · rw [if_neg e]
    simp only [shareRow, List.getElem_map, List.getElem_range]
    by_cases h3 : i < j
    · rw [if_pos h3, if_pos (by omega)]
    · rw [if_neg h3, if_neg (by omega)]
theorem shareSome_nil (N : Nat) (done : List (List Int)) : shareSome N done [] = sharesV N done := by
  unfold shareSome sharesV
  exact List.map_congr_left (fun c _ => by simp)
theorem shareSome_rd {N : Nat} (done : List (List Int)) (cs : List Int) {j : Nat} (h : j < N) (hn : (j : Int) ∉ cs) : rd (shareSome N done cs) (j : Int) = shareAt done j := by
  rw [rd_get _ _ (by rw [shareSome_len]; exact h)]
  simp [shareSome, hn]
theorem shareSome_set {N : Nat} (done : List (List Int)) (cs : List Int) {j : Nat} (h : j < N) (hn : (j : Int) ∉ cs) : (shareSome N done cs).set j (shareAt done j + 1) = shareSome N done (cs ++ [(j : Int)]) := by
  refine List.ext_getElem (by simp [shareSome]) (fun i h1 h2 => ?_)
  rw [List.getElem_set]
  by_cases e : j = i
  · subst e
    simp [shareSome]
  · rw [if_neg e]
    simp only [shareSome, List.getElem_map, List.getElem_range, List.mem_append, List.mem_singleton]
    have h3 : ¬ ((i : Int) = (j : Int)) := by omega
    simp only [h3, or_false]
theorem shareSome_all {N : Nat} (done : List (List Int)) (fl : List Int) {n : Nat} (hn : N ≤ n) : shareSome N done (chosenTo (bitIn (orAll fl)) n) = sharesV N (done ++ [fl]) := by
  unfold shareSome sharesV
  refine List.map_congr_left (fun c h => ?_)
  have hc := List.mem_range.1 h
  rw [shareAt_snoc]
  congr 1
  have e : ((c : Int) ∈ chosenTo (bitIn (orAll fl)) n) ↔ bitIn (orAll fl) (c : Int) = true := by
    rw [chosen_iff]
    exact ⟨fun h => h.2.2, fun h => ⟨by omega, by omega, h⟩⟩
  simp only [e]

end Go.Proofs.Ytiancdhpdjmacaa.F
