-- written by the session's program xp.py over the kit's print program, and by hand; texts joined by pack.py
import Derived.Test.YthmfpdkemkjpkaaKFnExactHuntFleet4
namespace Go.Proofs.Ythmfpdkemkjpkaa.F
open Go.RowKit Go.Proofs.YthmfpdkemkjpkaaW.PrintWords Go.Proofs.YthmfpdkemkjpkaaW.PrintLast Go.Proofs.YthmfpdkemkjpkaaW.PrintMore
attribute [local go_sem] max2_int min2_int max_two min_two max_three min_three max_four min_four   -- for this text's walks alone
set_option linter.unusedVariables false
set_option linter.unusedSimpArgs false

def impl_answer.l0 : Nat → Int → Int → List Int → Int → Int → Option (Int)
 | 0, _, _, _, _, _ => none
 | k + 1, x1, x2, x9, x10, x11 => if x11 < x10 then (if 0 ≤ x11 then (if x11 < (x9.length : Int) then (if 0 ≤ x2 then (if (Go.bits .and .i64 (shr .i64 (rd x9 x11) x2) 1) = 1 then ((impl_bit.f ((Go.bits .andNot .i64 (rd x9 x11) (Go.bits .or .i64 x1 (shl .i64 1 x2))) == 0)).bind fun t415 => (some (wrap64 (1 + t415)))) else (impl_answer.l0 k x1 x2 x9 x10 (wrap64 (x11 + 1)))) else (none)) else (none)) else (none)) else (some 0)
def impl_answer.f (k : Nat) (l0 : List Int) (a1 : Int) (a2 : Int) : Option (Int) := impl_answer.l0 k a1 a2 l0 (l0.length : Int) 0
set_option maxHeartbeats 8000000 in
set_option maxRecDepth 100000 in
theorem impl_answer.calls (k : Nat) (A0 : Option Addr) (c0 : Nat) (l0 : List Int) (a1 : Int) (a2 : Int) (r : Int) (w : World) (hr0 : Kd.C (Kd.int .i64) w A0 l0.length l0) (hc0 : l0.length ≤ c0) (h : impl_answer.f k l0 a1 a2 = some r) :
  Calls Try.prog 24 #[.slice A0 l0.length c0, .int .i64 a1, .int .i64 a2] w fun e w' => e = .returned (.int .i64 r) ∧ Drawn0 w w' := by
 have HR0 := Aside0.mk hr0
 have HC0 := Aside0.mk hc0
 clear hr0 hc0
 have H : (impl_answer.l0 k a1 a2 l0 (l0.length : Int) 0) = some r := h
 clear h
 have H' := Aside0.mk H
 clear H
 go_enter Try.func24, Try.ntmps24
 go_wp2
 go_loopg [11] k (fun kq v11 w' => ∃ (x11_1 : Int), v11 = .int .i64 x11_1 ∧ Aside0 (impl_answer.l0 kq a1 a2 l0 (l0.length : Int) x11_1 = some r) ∧ Aside0 (kq ≤ k) ∧ Drawn0 w w')
 case atStart => exact ⟨(0), (by first | rfl | (simp; done) | (simp [*]; done)), H', ⟨Nat.le_refl _⟩, by repeat (first | exact Drawn0.refl _ | apply Drawn0.step)⟩
 case round =>
  clear H'
  (try clear c2); (try clear p2)
  obtain ⟨x11_1, rfl, HA, HK1, ⟨m1, rfl⟩⟩ := hrel
  cases gk with
  | zero => exact absurd HA.out (by simp [impl_answer.l0])
  | succ k1 =>
   have H := HA.out
   clear HA
   simp only [impl_answer.l0] at H
   by_cases c4 : x11_1 < (l0.length : Int)
   ·rw [if_pos c4] at H
    have c4b0 : decide (x11_1 < (l0.length : Int)) = true := decide_eq_true c4
    clear c4
    by_cases c5 : 0 ≤ x11_1
    ·rw [if_pos c5] at H
     have c5b0 : decide (0 ≤ x11_1) = true := decide_eq_true c5
     clear c5
     by_cases c6 : x11_1 < (l0.length : Int)
     ·rw [if_pos c6] at H
      have c6b0 : decide (x11_1 < (l0.length : Int)) = true := decide_eq_true c6
      clear c6
      by_cases c7 : 0 ≤ a2
      ·rw [if_pos c7] at H
       have c7b0 := eq_true c7
       have c7b1 : decide (0 ≤ a2) = true := decide_eq_true c7
       clear c7
       obtain ⟨ji8, hji8⟩ : ∃ j_ : Int, (shr .i64 (rd l0 x11_1) a2) = j_ := ⟨_, rfl⟩
       replace H : (if (Go.bits .and .i64 (ji8) 1) = 1 then ((impl_bit.f ((Go.bits .andNot .i64 (rd l0 x11_1) (Go.bits .or .i64 a1 (shl .i64 1 a2))) == 0)).bind fun t415 => (some (wrap64 (1 + t415)))) else (impl_answer.l0 k1 a1 a2 l0 (l0.length : Int) (wrap64 (x11_1 + 1)))) = some r := by first | (rw [hji8] at H; exact H) | (simp only [hji8] at H ⊢; exact H)
       have hji8_ : ((rd l0 x11_1) / 2 ^ min a2.toNat 64) = ji8 := hji8
       have hji8z : a2 ≤ 64 → ((rd l0 x11_1) / 2 ^ a2.toNat) = ji8 := shr_small hji8
       by_cases c9 : (Go.bits .and .i64 (ji8) 1) = 1
       ·rw [if_pos c9] at H
        have c9b0 : ((Go.bits .and .i64 (ji8) 1) == 1) = true := beq_iff_eq.mpr c9
        have c9b1 : ((Go.bits .and .i64 (ji8) 1) != 1) = false := bne_eq_false_iff_eq.mpr c9
        clear c9
        have c10b0 := eq_true (oda : 0 ≤ a2)
        obtain ⟨ji11, hji11⟩ : ∃ j_ : Int, (shl .i64 1 a2) = j_ := ⟨_, rfl⟩
        replace H : ((impl_bit.f ((Go.bits .andNot .i64 (rd l0 x11_1) (Go.bits .or .i64 a1 (ji11))) == 0)).bind fun t415 => (some (wrap64 (1 + t415)))) = some r := by first | (rw [hji11] at H; exact H) | (simp only [hji11] at H ⊢; exact H)
        have hji11_ : (IntKind.i64.wrap (1 * 2 ^ min a2.toNat 64)) = ji11 := hji11
        have hji11z : a2 ≤ 64 → (IntKind.i64.wrap (1 * 2 ^ a2.toNat)) = ji11 := shl_small hji11
        have hji11u : (IntKind.i64.wrap (2 ^ min a2.toNat 64)) = ji11 := by have h_ := hji11_; rw [Int.one_mul] at h_; exact h_
        have hji11v : a2 ≤ 64 → (IntKind.i64.wrap (2 ^ a2.toNat)) = ji11 := fun hle_ => by have h_ := hji11z hle_; rw [Int.one_mul] at h_; exact h_
        have hji11y : (wrap64 (1 * 2 ^ min a2.toNat 64)) = ji11 := (i64_w _).symm.trans hji11_
        have hji11x : a2 ≤ 64 → (wrap64 (1 * 2 ^ a2.toNat)) = ji11 := fun h_ => (i64_w _).symm.trans (hji11z h_)
        replace H := Option.bind_eq_some_iff.mp H
        obtain ⟨t415, A120, H⟩ := H
        replace H : (some (wrap64 (1 + t415))) = some r := H
        have A12 := Aside0.mk A120
        clear A120
        obtain rfl := Option.some.inj H
        have p414 : 0 ≤ (x11_1 : Int) := oda
        have q414 : x11_1 < (l0.length : Int) := oda
        obtain ⟨ad414, e414, hx414_0⟩ := Kd.at_int HR0.out x11_1 p414 q414
        cases e414
        replace p414 := eq_true p414
        replace q414 := eq_true q414
        go_wp2_with (first | ((with_reducible refine gate_callee (f := 42) rfl ?_); refine goesL_ (some 27) rfl rfl Try.func42 (by kernel_rfl) rfl #[.bool ((Go.bits .andNot .i64 (rd l0 x11_1) (Go.bits .or .i64 a1 (ji11))) == 0)] rfl (by (try simp only [List.map_toArray, List.map_cons, List.map_nil]); first | done | (simp only [hji11]; rfl) | rfl | (simp only [List.length_drop, List.length_take]; rfl)) ?_; (with_reducible refine (impl_bit.calls ((Go.bits .andNot .i64 (rd l0 x11_1) (Go.bits .or .i64 a1 (ji11))) == 0) t415 _ A12.out).mono ?_); rintro e w' ⟨rfl, ⟨nd, rfl⟩⟩; refine ⟨_, rfl, ?_⟩))
        go_ret
        exact ⟨by first | rfl | (simp; done) | (simp only [← hji8, ← hji11] <;> (first | rfl | simp)) | (simp [*]; done), by repeat (first | exact Drawn0.refl _ | apply Drawn0.step)⟩
       ·rw [if_neg c9] at H
        have c9b0 : ((Go.bits .and .i64 (ji8) 1) == 1) = false := beq_eq_false_iff_ne.mpr c9
        have c9b1 : ((Go.bits .and .i64 (ji8) 1) != 1) = true := bne_iff_ne.mpr c9
        have H' := Aside0.mk H
        clear H
        have p414 : 0 ≤ (x11_1 : Int) := oda
        have q414 : x11_1 < (l0.length : Int) := oda
        obtain ⟨ad414, e414, hx414_0⟩ := Kd.at_int HR0.out x11_1 p414 q414
        cases e414
        replace p414 := eq_true p414
        replace q414 := eq_true q414
        go_wp2
        go_roundg k1
        case measure => have := HK1.out; omega
        case rel => exact ⟨(wrap64 (x11_1 + 1)), (by first | rfl | (simp; done) | (simp [*]; done)), H', ⟨by have := HK1.out; omega⟩, by repeat (first | exact Drawn0.refl _ | apply Drawn0.step)⟩
      ·rw [if_neg c7] at H
       exact absurd H (by simp)
     ·rw [if_neg c6] at H
      exact absurd H (by simp)
    ·rw [if_neg c5] at H
     exact absurd H (by simp)
   ·rw [if_neg c4] at H
    have c4b0 : decide (x11_1 < (l0.length : Int)) = false := decide_eq_false c4
    clear c4
    obtain rfl := Option.some.inj H
    go_wp2
    go_ret
    exact ⟨by first | rfl | (simp; done) | (simp [*]; done), by repeat (first | exact Drawn0.refl _ | apply Drawn0.step)⟩
def ansFrom (fl : List Int) (c set : Int) : Nat → Nat → Int
 | _, 0 => 0
 | i, d + 1 => if Go.bits .and .i64 (shr .i64 (rd fl (i : Int)) c) 1 = 1 then (if Go.bits .andNot .i64 (rd fl (i : Int)) set = 0 then 2 else 1) else ansFrom fl c set (i + 1) d
def NumFleet (fl : List Int) : Prop := ∀ x ∈ fl, ∃ m : Nat, x = (m : Int) ∧ m < 33554432
theorem and_dich {fl : List Int} (hf : NumFleet fl) (q i : Nat) (hq : q < 25) (hi : i < fl.length) : Go.bits .and .i64 (shr .i64 (rd fl (i : Int)) (q : Int)) 1 = 1 ∨ Go.bits .and .i64 (shr .i64 (rd fl (i : Int)) (q : Int)) 1 = 0 := by
 obtain ⟨m, e, hm⟩ := hf _ (List.getElem_mem hi)
 rw [rd_get fl i hi, e, bit_nat m q (Nat.lt_of_lt_of_le hm pow25_le) (by omega)]
 split
 ·exact .inl rfl
 ·exact .inr rfl
theorem specAns_ev {fl : List Int} (hf : NumFleet fl) (hl : fl.length ≤ 1000) (q : Nat) (hq : q < 25) (set : Int) : Ev (fun k => spec_l09Answer.f k fl (q : Int) set) (ansFrom fl (q : Int) set 0 fl.length) := by
 unfold spec_l09Answer.f
 have hu := u64_nat q (by omega)
 have c3 : (0 : Int) ≤ (q : Int) := by omega
 have key : ∀ (d i : Nat), i + d = fl.length → Ev (fun k => spec_l09Answer.l0 k fl (q : Int) set i) (ansFrom fl (q : Int) set i d) := by
  intro d
  induction d with
  | zero =>
   intro i hi
   refine Ev.step (f := fun _ => some 0) (fun k => ?_) (Ev.now _)
   simp only [spec_l09Answer.l0]
   rw [if_neg (by omega)]
  | succ d ih =>
   intro i hi
   have c1 : (i : Int) < (fl.length : Int) := by omega
   have c2 : (0 : Int) ≤ (i : Int) := by omega
   have hw := Aside0.mk (wrap_one (a := i) (by omega))
   have ih1 := ih (i + 1) (by omega)
   rcases and_dich hf q i hq (by omega) with hb | hb
   ·have he : ansFrom fl (q : Int) set i (d + 1) = if Go.bits .andNot .i64 (rd fl (i : Int)) set = 0 then 2 else 1 := by unfold ansFrom; rw [if_pos hb]
    rw [he]
    refine Ev.step (f := fun _ => some (if Go.bits .andNot .i64 (rd fl (i : Int)) set = 0 then 2 else 1)) (fun k => ?_) (Ev.now _)
    simp only [spec_l09Answer.l0]
    rw [if_pos c1, if_pos c2, hu, if_pos c3, hb, if_neg (by decide)]
    split <;> rfl
   ·have he : ansFrom fl (q : Int) set i (d + 1) = ansFrom fl (q : Int) set (i + 1) d := by show (if _ then _ else _) = _; rw [if_neg (by rw [hb]; decide)]
    rw [he]
    refine Ev.step (fun k => ?_) ih1
    simp only [spec_l09Answer.l0]
    rw [if_pos c1, if_pos c2, hu, if_pos c3, hb, if_pos rfl, hw.out]
 exact key fl.length 0 (by omega)
theorem implAns_ev {fl : List Int} (hf : NumFleet fl) (hl : fl.length ≤ 1000) (q : Nat) (hq : q < 25) (shot : Int) : Ev (fun k => impl_answer.f k fl shot (q : Int)) (ansFrom fl (q : Int) (Go.bits .or .i64 shot (shl .i64 1 (q : Int))) 0 fl.length) := by
 unfold impl_answer.f
 have c3 : (0 : Int) ≤ (q : Int) := by omega
 have key : ∀ (d i : Nat), i + d = fl.length → Ev (fun k => impl_answer.l0 k shot (q : Int) fl fl.length i) (ansFrom fl (q : Int) (Go.bits .or .i64 shot (shl .i64 1 (q : Int))) i d) := by
  intro d
  induction d with
  | zero =>
   intro i hi
   refine Ev.step (f := fun _ => some 0) (fun k => ?_) (Ev.now _)
   simp only [impl_answer.l0]
   rw [if_neg (by omega)]
  | succ d ih =>
   intro i hi
   have c1 : (i : Int) < (fl.length : Int) := by omega
   have c2 : (0 : Int) ≤ (i : Int) := by omega
   have hw := Aside0.mk (wrap_one (a := i) (by omega))
   have ih1 := ih (i + 1) (by omega)
   have w2 : wrap64 (1 + 1) = 2 := wrap_small (z := 2) (by omega) (by omega)
   have w1 : wrap64 (1 + 0) = 1 := wrap_small (z := 1) (by omega) (by omega)
   rcases and_dich hf q i hq (by omega) with hb | hb
   ·have he : ansFrom fl (q : Int) (Go.bits .or .i64 shot (shl .i64 1 (q : Int))) i (d + 1) = if Go.bits .andNot .i64 (rd fl (i : Int)) (Go.bits .or .i64 shot (shl .i64 1 (q : Int))) = 0 then 2 else 1 := by show (if _ then _ else _) = _; rw [if_pos hb]
    rw [he]
    refine Ev.step (f := fun _ => some (if Go.bits .andNot .i64 (rd fl (i : Int)) (Go.bits .or .i64 shot (shl .i64 1 (q : Int))) = 0 then 2 else 1)) (fun k => ?_) (Ev.now _)
    simp only [impl_answer.l0]
    rw [if_pos c1, if_pos c2, if_pos c1, if_pos c3, hb, if_pos rfl]
    by_cases hz : Go.bits .andNot .i64 (rd fl (i : Int)) (Go.bits .or .i64 shot (shl .i64 1 (q : Int))) = 0
    ·rw [if_pos hz, beq_iff_eq.2 hz]
     unfold impl_bit.f
     rw [if_pos rfl, Option.bind_some, w2]
    ·rw [if_neg hz, beq_eq_false_iff_ne.2 hz]
     unfold impl_bit.f
     rw [if_neg (by simp), Option.bind_some, w1]
   ·have he : ansFrom fl (q : Int) (Go.bits .or .i64 shot (shl .i64 1 (q : Int))) i (d + 1) = ansFrom fl (q : Int) (Go.bits .or .i64 shot (shl .i64 1 (q : Int))) (i + 1) d := by show (if _ then _ else _) = _; rw [if_neg (by rw [hb]; decide)]
    rw [he]
    refine Ev.step (fun k => ?_) ih1
    simp only [impl_answer.l0]
    rw [if_pos c1, if_pos c2, if_pos c1, if_pos c3, hb, if_neg (by decide), hw.out]
 exact key fl.length 0 (by omega)
def SeaCells (cells : List Int) : Prop := ∀ x ∈ cells, 0 ≤ x ∧ x ≤ 24
def bitIn (V c : Int) : Bool := Go.bits .and .i64 (shr .i64 V c) 1 == 1
def spec_l09Set.l0 : Nat → List Int → Int → Int → Option (Int)
 | 0, _, _, _ => none
 | k + 1, x0, x3, x4 => if x4 < (x0.length : Int) then (if 0 ≤ x4 then (spec_l09Set.l0 k x0 (Go.bits .or .i64 x3 (rd x0 x4)) (wrap64 (x4 + 1))) else (none)) else (some x3)
def spec_l09Set.f (k : Nat) (l0 : List Int) : Option (Int) := spec_l09Set.l0 k l0 0 0
set_option maxHeartbeats 8000000 in
set_option maxRecDepth 100000 in
theorem spec_l09Set.calls (k : Nat) (A0 : Option Addr) (c0 : Nat) (l0 : List Int) (r : Int) (w : World) (hr0 : Kd.C (Kd.int .i64) w A0 l0.length l0) (hc0 : l0.length ≤ c0) (h : spec_l09Set.f k l0 = some r) :
  Calls Try.prog 17 #[.slice A0 l0.length c0] w fun e w' => e = .returned (.int .i64 r) ∧ Drawn0 w w' := by
 have HR0 := Aside0.mk hr0
 have HC0 := Aside0.mk hc0
 clear hr0 hc0
 have H : (spec_l09Set.l0 k l0 0 0) = some r := h
 clear h
 have H' := Aside0.mk H
 clear H
 go_enter Try.func17, Try.ntmps17
 go_wp2
 go_loopg [3, 4] k (fun kq v3 v4 w' => ∃ (x3_1 : Int) (x4_1 : Int), v3 = .int .i64 x3_1 ∧ v4 = .int .i64 x4_1 ∧ Aside0 (spec_l09Set.l0 kq l0 x3_1 x4_1 = some r) ∧ Aside0 (kq ≤ k) ∧ Drawn0 w w')
 case atStart => exact ⟨(0), (0), (by first | rfl | (simp; done) | (simp [*]; done)), (by first | rfl | (simp; done) | (simp [*]; done)), H', ⟨Nat.le_refl _⟩, by repeat (first | exact Drawn0.refl _ | apply Drawn0.step)⟩
 case round =>
  clear H'
  (try clear c1)
  obtain ⟨x3_1, x4_1, rfl, rfl, HA, HK1, ⟨m1, rfl⟩⟩ := hrel
  cases gk with
  | zero => exact absurd HA.out (by simp [spec_l09Set.l0])
  | succ k1 =>
   have H := HA.out
   clear HA
   simp only [spec_l09Set.l0] at H
   by_cases c2 : x4_1 < (l0.length : Int)
   ·rw [if_pos c2] at H
    have c2b0 : decide (x4_1 < (l0.length : Int)) = true := decide_eq_true c2
    clear c2
    by_cases c3 : 0 ≤ x4_1
    ·rw [if_pos c3] at H
     have c3b0 : decide (0 ≤ x4_1) = true := decide_eq_true c3
     clear c3
     have H' := Aside0.mk H
     clear H
     have p190 : 0 ≤ (x4_1 : Int) := oda
     have q190 : x4_1 < (l0.length : Int) := oda
     obtain ⟨ad190, e190, hx190_0⟩ := Kd.at_int HR0.out x4_1 p190 q190
     cases e190
     replace p190 := eq_true p190
     replace q190 := eq_true q190
     go_wp2
     go_roundg k1
     case measure => have := HK1.out; omega
     case rel => exact ⟨(Go.bits .or .i64 x3_1 (rd l0 x4_1)), (wrap64 (x4_1 + 1)), (by first | rfl | (simp; done) | (simp [*]; done)), (by first | rfl | (simp; done) | (simp [*]; done)), H', ⟨by have := HK1.out; omega⟩, by repeat (first | exact Drawn0.refl _ | apply Drawn0.step)⟩
    ·rw [if_neg c3] at H
     exact absurd H (by simp)
   ·rw [if_neg c2] at H
    have c2b0 : decide (x4_1 < (l0.length : Int)) = false := decide_eq_false c2
    clear c2
    obtain rfl := Option.some.inj H
    go_wp2
    go_ret
    exact ⟨by first | rfl | (simp; done) | (simp [*]; done), by repeat (first | exact Drawn0.refl _ | apply Drawn0.step)⟩
def impl_whole.l0 : Nat → Int → List Int → Int → Int → Option (Int)
 | 0, _, _, _, _ => none
 | k + 1, x3, x6, x7, x8 => if x8 < x7 then (if 0 ≤ x8 then (if x8 < (x6.length : Int) then (impl_whole.l0 k (Go.bits .or .i64 x3 (rd x6 x8)) x6 x7 (wrap64 (x8 + 1))) else (none)) else (none)) else (some x3)
def impl_whole.f (k : Nat) (l0 : List Int) : Option (Int) := impl_whole.l0 k 0 l0 (l0.length : Int) 0
set_option maxHeartbeats 8000000 in
set_option maxRecDepth 100000 in
theorem impl_whole.calls (k : Nat) (A0 : Option Addr) (c0 : Nat) (l0 : List Int) (r : Int) (w : World) (hr0 : Kd.C (Kd.int .i64) w A0 l0.length l0) (hc0 : l0.length ≤ c0) (h : impl_whole.f k l0 = some r) :
  Calls Try.prog 22 #[.slice A0 l0.length c0] w fun e w' => e = .returned (.int .i64 r) ∧ Drawn0 w w' := by
 have HR0 := Aside0.mk hr0
 have HC0 := Aside0.mk hc0
 clear hr0 hc0
 have H : (impl_whole.l0 k 0 l0 (l0.length : Int) 0) = some r := h
 clear h
 have H' := Aside0.mk H
 clear H
 go_enter Try.func22, Try.ntmps22
 go_wp2
 go_loopg [3, 8] k (fun kq v3 v8 w' => ∃ (x3_1 : Int) (x8_1 : Int), v3 = .int .i64 x3_1 ∧ v8 = .int .i64 x8_1 ∧ Aside0 (impl_whole.l0 kq x3_1 l0 (l0.length : Int) x8_1 = some r) ∧ Aside0 (kq ≤ k) ∧ Drawn0 w w')
 case atStart => exact ⟨(0), (0), (by first | rfl | (simp; done) | (simp [*]; done)), (by first | rfl | (simp; done) | (simp [*]; done)), H', ⟨Nat.le_refl _⟩, by repeat (first | exact Drawn0.refl _ | apply Drawn0.step)⟩
 case round =>
  clear H'
  obtain ⟨x3_1, x8_1, rfl, rfl, HA, HK1, ⟨m1, rfl⟩⟩ := hrel
  cases gk with
  | zero => exact absurd HA.out (by simp [impl_whole.l0])
  | succ k1 =>
   have H := HA.out
   clear HA
   simp only [impl_whole.l0] at H
   by_cases c2 : x8_1 < (l0.length : Int)
   ·rw [if_pos c2] at H
    have c2b0 : decide (x8_1 < (l0.length : Int)) = true := decide_eq_true c2
    clear c2
    by_cases c3 : 0 ≤ x8_1
    ·rw [if_pos c3] at H
     have c3b0 : decide (0 ≤ x8_1) = true := decide_eq_true c3
     clear c3
     by_cases c4 : x8_1 < (l0.length : Int)
     ·rw [if_pos c4] at H
      have c4b0 : decide (x8_1 < (l0.length : Int)) = true := decide_eq_true c4
      clear c4
      have H' := Aside0.mk H
      clear H
      have p413 : 0 ≤ (x8_1 : Int) := oda
      have q413 : x8_1 < (l0.length : Int) := oda
      obtain ⟨ad413, e413, hx413_0⟩ := Kd.at_int HR0.out x8_1 p413 q413
      cases e413
      replace p413 := eq_true p413
      replace q413 := eq_true q413
      go_wp2
      go_roundg k1
      case measure => have := HK1.out; omega
      case rel => exact ⟨(Go.bits .or .i64 x3_1 (rd l0 x8_1)), (wrap64 (x8_1 + 1)), (by first | rfl | (simp; done) | (simp [*]; done)), (by first | rfl | (simp; done) | (simp [*]; done)), H', ⟨by have := HK1.out; omega⟩, by repeat (first | exact Drawn0.refl _ | apply Drawn0.step)⟩
     ·rw [if_neg c4] at H
      exact absurd H (by simp)
    ·rw [if_neg c3] at H
     exact absurd H (by simp)
   ·rw [if_neg c2] at H
    have c2b0 : decide (x8_1 < (l0.length : Int)) = false := decide_eq_false c2
    clear c2
    obtain rfl := Option.some.inj H
    go_wp2
    go_ret
    exact ⟨by first | rfl | (simp; done) | (simp [*]; done), by repeat (first | exact Drawn0.refl _ | apply Drawn0.step)⟩
def spec_l09Cells.l0 : Nat → Int → List Int → Int → Option (List Int)
 | 0, _, _, _ => none
 | k + 1, x0, x3, x4 => if x4 < 25 then (if 0 ≤ (IntKind.u64.wrap (x4)) then (if (Go.bits .and .i64 (shr .i64 x0 (IntKind.u64.wrap (x4))) 1) = 1 then (if x3.length < 17592186044416 then (spec_l09Cells.l0 k x0 (x3 ++ [x4]) (wrap64 (x4 + 1))) else (none)) else (spec_l09Cells.l0 k x0 x3 (wrap64 (x4 + 1)))) else (none)) else (some x3)
def spec_l09Cells.f (k : Nat) (a0 : Int) : Option (List Int) := spec_l09Cells.l0 k a0 (([] : List Int)) 0
set_option maxHeartbeats 8000000 in
set_option maxRecDepth 100000 in
theorem spec_l09Cells.calls (k : Nat) (a0 : Int) (r : List Int) (w : World) (h : spec_l09Cells.f k a0 = some r) :
  Calls Try.prog 45 #[.int .i64 a0] w fun e w' => ∃ v0_ : Value, e = .returned (v0_) ∧ Kd.R (Kd.int .i64) 2 w' w.heap.size (fun _ => True) v0_ r ∧ Below w.heap.size w w' := by
 have HB := Aside0.mk (Below.refl w.heap.size w)
 have H : (spec_l09Cells.l0 k a0 (([] : List Int)) 0) = some r := h
 clear h
 obtain ⟨y191, hy191⟩ : ∃ y_ : List Int, y_ = (([] : List Int)) := ⟨_, rfl⟩
 replace H : (spec_l09Cells.l0 k a0 y191 0) = some r := by first | (rw [hy191]; with_reducible exact H) | (have H2_ := (Option.bind_some _ _).symm.trans H; rw [hy191]; with_reducible exact H2_) | (have H2_ := (Option.bind_some _ _).symm.trans H; with_reducible exact H2_) | with_reducible exact H | (rw [hy191]; exact H) | exact H
 have Ny191 := Aside0.mk hy191
 clear hy191
 have H' := Aside0.mk H
 clear H
 go_enter Try.func45, Try.ntmps45
 go_wp2_with (first | ((with_reducible refine gate_dst (N := 5) rfl ?_); refine Kd.R_lit (Kd.int .i64) _ 2 ?hg (N := 5) ?hd (xs := ([] : List Int)) (inner := []) (ok := fun _ => True) (okp := fun _ => True) ?hr ?hp (fun _ hk => hk) trivial (Below.refl _ _) (Nat.le_refl _) (by simp) ?_; (case hd => rfl); (case hg => rfl); (case hr => first | (go_simp; done) | (go_simp; rfl)); (case hp => exact (Reps.none _ _)); intro v192 w2 ho3 hb hg_ hnew_; clear hg_ hnew_; (first | rw [← Ny191.out] at ho3 | (simp only [Int.reduceToNat] at ho3; rw [← Ny191.out] at ho3)); have n0_ := Aside0.mk (Kd.R_lower ho3 (bz_ hb_)); have n1_ := Aside0.mk (bp_ hb_ hb); clear HB; have HO193 := n0_; have HB := n1_; clear n0_ n1_; clear hb ho3))
 go_loopg [3, 4] k (fun kq v3 v4 w' => ∃ (x3_1 : List Int) (x4_1 : Int), v4 = .int .i64 x4_1 ∧ Aside0 (spec_l09Cells.l0 kq a0 x3_1 x4_1 = some r) ∧ Aside0 (kq ≤ k) ∧ Aside0 (Kd.R (Kd.int .i64) 2 w' w.heap.size (fun _ => True) v3 x3_1) ∧ Aside0 (Below w.heap.size w w'))
 case atStart => exact ⟨(y191), (0), (by first | rfl | (simp; done) | (simp [*]; done)), H', ⟨Nat.le_refl _⟩, ⟨by (with_reducible repeat (first | apply Kd.R_alloc | apply Kd.R_drewN | apply Kd.R_drew)); exact HO193.out⟩, ⟨by repeat (first | (with_reducible first | exact HB.out | apply ba_ | apply pbN_ | apply bd1_) | exact HB.out)⟩⟩
 case round =>
  clear H'
  (try clear p2)
  obtain ⟨x3_1, x4_1, rfl, HA, HK1, HO_3, HB⟩ := hrel
  cases gk with
  | zero => exact absurd HA.out (by simp [spec_l09Cells.l0])
  | succ k1 =>
   have H := HA.out
   clear HA
   simp only [spec_l09Cells.l0] at H
   by_cases c4 : x4_1 < 25
   ·rw [if_pos c4] at H
    have c4b0 : decide (x4_1 < 25) = true := decide_eq_true c4
    clear c4
    obtain ⟨ji5, hji5⟩ : ∃ j_ : Int, (IntKind.u64.wrap (x4_1)) = j_ := ⟨_, rfl⟩
    replace H : (if 0 ≤ (ji5) then (if (Go.bits .and .i64 (shr .i64 a0 (ji5)) 1) = 1 then (if x3_1.length < 17592186044416 then (spec_l09Cells.l0 k1 a0 (x3_1 ++ [x4_1]) (wrap64 (x4_1 + 1))) else (none)) else (spec_l09Cells.l0 k1 a0 x3_1 (wrap64 (x4_1 + 1)))) else (none)) = some r := by first | (rw [hji5] at H; exact H) | (simp only [hji5] at H ⊢; exact H)
    by_cases c6 : 0 ≤ (ji5)
    ·rw [if_pos c6] at H
     have c6b0 := eq_true c6
     have c6b1 : decide (0 ≤ (ji5)) = true := decide_eq_true c6
     clear c6
     obtain ⟨ji7, hji7⟩ : ∃ j_ : Int, (shr .i64 a0 (ji5)) = j_ := ⟨_, rfl⟩
     replace H : (if (Go.bits .and .i64 (ji7) 1) = 1 then (if x3_1.length < 17592186044416 then (spec_l09Cells.l0 k1 a0 (x3_1 ++ [x4_1]) (wrap64 (x4_1 + 1))) else (none)) else (spec_l09Cells.l0 k1 a0 x3_1 (wrap64 (x4_1 + 1)))) = some r := by first | (rw [hji7] at H; exact H) | (simp only [hji7] at H ⊢; exact H)
     have hji7_ : (a0 / 2 ^ min (ji5).toNat 64) = ji7 := hji7
     have hji7z : (ji5) ≤ 64 → (a0 / 2 ^ (ji5).toNat) = ji7 := shr_small hji7
     by_cases c8 : (Go.bits .and .i64 (ji7) 1) = 1
     ·rw [if_pos c8] at H
      have c8b0 : ((Go.bits .and .i64 (ji7) 1) == 1) = true := beq_iff_eq.mpr c8
      have c8b1 : ((Go.bits .and .i64 (ji7) 1) != 1) = false := bne_eq_false_iff_eq.mpr c8
      clear c8
      by_cases c9 : x3_1.length < 17592186044416
      ·rw [if_pos c9] at H
       have LMc9 := Aside0.mk c9
       clear c9
       obtain ⟨y194, hy194⟩ : ∃ y_ : List Int, y_ = (x3_1 ++ [x4_1]) := ⟨_, rfl⟩
       replace H : (spec_l09Cells.l0 k1 a0 y194 (wrap64 (x4_1 + 1))) = some r := by first | (rw [hy194]; with_reducible exact H) | (have H2_ := (Option.bind_some _ _).symm.trans H; rw [hy194]; with_reducible exact H2_) | (have H2_ := (Option.bind_some _ _).symm.trans H; with_reducible exact H2_) | with_reducible exact H | (rw [hy194]; exact H) | exact H
       have Ny194 := Aside0.mk hy194
       clear hy194
       have H' := Aside0.mk H
       clear H
       go_wp2_with (first | ((with_reducible refine gate_builtin (b := .append) (xs := #[.tmp 16, .tmp 18]) rfl ?_); at_builtin; refine Kd.R_append (Kd.int .i64) (w0 := w) w.heap.size rfl (.tmp 16) (.tmp 18) 22 2 (.int .i64 0) 8 rfl Try.underlying22 info2 rfl (by decide) (by omega) u3 x3_1 x4_1 [.int .i64 x4_1] (fun _ => True) (fun _ => False) rfl rfl ?aP (fun _ hk => hk.elim) ?aF ?aO ?aB ?aS ?aL ?_; (case aP => exact rfl); (case aB => exact hb_); (case aF => exact (fun _ _ => trivial)); (case aO => exact (by (with_reducible repeat (first | apply Kd.R_alloc | apply Kd.R_drewN | apply Kd.R_drew)); exact HO_3.out)); (case aS => exact (bz_ hb_)); (case aL => have := LMc9.out; omega); intro v195 w10 ho hb hg hat; rw [← Ny194.out] at ho; have n0_ := Aside0.mk (hb); have n1_ := Aside0.mk (ho); clear HB; clear HO_3; have HB := n0_; have HO196 := n1_; clear n0_ n1_; clear ho hb hg hat))
       go_roundg k1
       case measure => have := HK1.out; omega
       case rel => exact ⟨(y194), (wrap64 (x4_1 + 1)), (by first | rfl | (simp; done) | (simp [*]; done)), H', ⟨by have := HK1.out; omega⟩, ⟨by (with_reducible repeat (first | apply Kd.R_alloc | apply Kd.R_drewN | apply Kd.R_drew)); exact HO196.out⟩, ⟨by repeat (first | (with_reducible first | exact HB.out | apply ba_ | apply pbN_ | apply bd1_) | exact HB.out)⟩⟩
      ·rw [if_neg c9] at H
       exact absurd H (by simp)
     ·rw [if_neg c8] at H
      have c8b0 : ((Go.bits .and .i64 (ji7) 1) == 1) = false := beq_eq_false_iff_ne.mpr c8
      have c8b1 : ((Go.bits .and .i64 (ji7) 1) != 1) = true := bne_iff_ne.mpr c8
      have H' := Aside0.mk H
      clear H
      go_wp2
      go_roundg k1
      case measure => have := HK1.out; omega
      case rel => exact ⟨(x3_1), (wrap64 (x4_1 + 1)), (by first | rfl | (simp; done) | (simp [*]; done)), H', ⟨by have := HK1.out; omega⟩, ⟨by (with_reducible repeat (first | apply Kd.R_alloc | apply Kd.R_drewN | apply Kd.R_drew)); exact HO_3.out⟩, ⟨by repeat (first | (with_reducible first | exact HB.out | apply ba_ | apply pbN_ | apply bd1_) | exact HB.out)⟩⟩
    ·rw [if_neg c6] at H
     exact absurd H (by simp)
   ·rw [if_neg c4] at H
    have c4b0 : decide (x4_1 < 25) = false := decide_eq_false c4
    clear c4
    obtain rfl := Option.some.inj H
    go_wp2
    go_ret
    exact ⟨_, by first | rfl | (simp [errW_none, errW_some] <;> rfl) | (simp [*, errW_none, errW_some] <;> rfl), by (with_reducible repeat (first | apply Kd.R_alloc | apply Kd.R_drewN | apply Kd.R_drew)); exact HO_3.out, by repeat (first | (with_reducible first | exact HB.out | apply ba_ | apply pbN_ | apply bd1_) | exact HB.out)⟩
def orAll (l : List Int) : Int := l.foldl (fun a x => Go.bits .or .i64 a x) 0
def orFrom (l : List Int) : Int → Nat → Nat → Int
 | a, _, 0 => a
 | a, i, d + 1 => orFrom l (Go.bits .or .i64 a (rd l (i : Int))) (i + 1) d
theorem orFrom_fold (l : List Int) : ∀ (d i : Nat) (a : Int), i + d = l.length → orFrom l a i d = (l.drop i).foldl (fun a x => Go.bits .or .i64 a x) a
 | 0, i, a, h => by
  rw [List.drop_eq_nil_of_le (by omega)]; rfl
 | d + 1, i, a, h => by
  have hi : i < l.length := by omega
  rw [List.drop_eq_getElem_cons hi, List.foldl_cons, ← orFrom_fold l d (i + 1) _ (by omega), ← rd_get l i hi]
  rfl
theorem orFrom_all (l : List Int) : orFrom l 0 0 l.length = orAll l := by
 rw [orFrom_fold l l.length 0 0 (by omega), List.drop_zero]; rfl
theorem orAll_nat {b : Nat} (hb : b ≤ 25) : ∀ (l : List Int) (a : Nat), a < 2 ^ b → (∀ x ∈ l, ∃ m : Nat, x = (m : Int) ∧ m < 2 ^ b) → ∃ M : Nat, l.foldl (fun a x => Go.bits .or .i64 a x) (a : Int) = (M : Int) ∧ M < 2 ^ b
 | [], a, ha, _ => ⟨a, rfl, ha⟩
 | x :: l, a, ha, h => by
  obtain ⟨m, rfl, hm⟩ := h x (List.mem_cons_self ..)
  have h25 : 2 ^ b ≤ 33554432 := Nat.le_trans (Nat.pow_le_pow_right (by omega) hb) (by simp)
  have e := bits_or_nat a m (Nat.lt_of_lt_of_le ha (Nat.le_trans h25 pow25_le)) (Nat.lt_of_lt_of_le hm (Nat.le_trans h25 pow25_le))
  rw [List.foldl_cons, e]
  exact orAll_nat hb l (a ||| m) (Nat.or_lt_two_pow ha hm) (fun y hy => h y (List.mem_cons_of_mem _ hy))
theorem specSet_ev (l : List Int) (hl : l.length ≤ 1000) : Ev (fun k => spec_l09Set.f k l) (orAll l) := by
 unfold spec_l09Set.f
 rw [← orFrom_all]
 have key : ∀ (d i : Nat) (a : Int), i + d = l.length → Ev (fun k => spec_l09Set.l0 k l a i) (orFrom l a i d) := by
  intro d
  induction d with
  | zero =>
   intro i a hi
   refine Ev.step (f := fun _ => some a) (fun k => ?_) (Ev.now _)
   simp only [spec_l09Set.l0]
   rw [if_neg (by omega)]
  | succ d ih =>
   intro i a hi
   have c1 : (i : Int) < (l.length : Int) := by omega
   have c2 : (0 : Int) ≤ (i : Int) := by omega
   have hw := wrap_one (a := i) (by omega)
   refine Ev.step (fun k => ?_) (ih (i + 1) _ (by omega))
   simp only [spec_l09Set.l0]
   rw [if_pos c1, if_pos c2, hw]
 exact key l.length 0 0 (by omega)
theorem implWhole_ev (l : List Int) (hl : l.length ≤ 1000) : Ev (fun k => impl_whole.f k l) (orAll l) := by
 unfold impl_whole.f
 rw [← orFrom_all]
 have key : ∀ (d i : Nat) (a : Int), i + d = l.length → Ev (fun k => impl_whole.l0 k a l l.length i) (orFrom l a i d) := by
  intro d
  induction d with
  | zero =>
   intro i a hi
   refine Ev.step (f := fun _ => some a) (fun k => ?_) (Ev.now _)
   simp only [impl_whole.l0]
   rw [if_neg (by omega)]
  | succ d ih =>
   intro i a hi
   have c1 : (i : Int) < (l.length : Int) := by omega
   have c2 : (0 : Int) ≤ (i : Int) := by omega
   have hw := wrap_one (a := i) (by omega)
   refine Ev.step (fun k => ?_) (ih (i + 1) _ (by omega))
   simp only [impl_whole.l0]
   rw [if_pos c1, if_pos c2, if_pos c1, hw]
 exact key l.length 0 0 (by omega)
theorem specCells_ev (V : Int) : Ev (fun k => spec_l09Cells.f k V) (chosenTo (bitIn V) 25) := by
 unfold spec_l09Cells.f
 have key : ∀ (d i : Nat), i + d = 25 → Ev (fun k => spec_l09Cells.l0 k V (chosenTo (bitIn V) i) i) (chosenTo (bitIn V) 25) := by
  intro d
  induction d with
  | zero =>
   intro i hi
   have e : i = 25 := by omega
   subst e
   refine Ev.step (f := fun _ => some _) (fun k => ?_) (Ev.now _)
   simp only [spec_l09Cells.l0]
   rw [if_neg (by omega)]
  | succ d ih =>
   intro i hi
   have c1 : (i : Int) < 25 := by omega
   have c2 : (0 : Int) ≤ (i : Int) := by omega
   have hle := chosenTo_le (bitIn V) i
   have c3 : (chosenTo (bitIn V) i).length < 17592186044416 := by omega
   have hw := wrap_one (a := i) (by omega)
   have hu := u64_nat i (by omega)
   refine Ev.step (fun k => ?_) (ih (i + 1) (by omega))
   simp only [spec_l09Cells.l0]
   rw [if_pos c1, hu, if_pos c2, hw]
   have hs : chosenTo (bitIn V) (i + 1) = if bitIn V (i : Int) = true then chosenTo (bitIn V) i ++ [(i : Int)] else chosenTo (bitIn V) i := rfl
   rw [hs]
   by_cases hb : Go.bits .and .i64 (shr .i64 V (i : Int)) 1 = 1
   ·have : bitIn V (i : Int) = true := beq_iff_eq.2 hb
    rw [if_pos hb, if_pos c3, if_pos this]
   ·have : ¬ bitIn V (i : Int) = true := fun h => hb (beq_iff_eq.1 h)
    rw [if_neg hb, if_neg this]
 exact key 25 0 (by omega)
theorem bitIn_high {M b c : Nat} (hM : M < 2 ^ b) (hb : b ≤ 25) (hc : b ≤ c) (hc64 : c ≤ 64) : bitIn (M : Int) (c : Int) = false := by
 unfold bitIn
 have h25 : 2 ^ b ≤ 33554432 := Nat.le_trans (Nat.pow_le_pow_right (by omega) hb) (by simp)
 rw [bit_nat M c (Nat.lt_of_lt_of_le hM (Nat.le_trans h25 pow25_le)) hc64]
 have : M.testBit c = false := Nat.testBit_lt_two_pow (Nat.lt_of_lt_of_le hM (Nat.pow_le_pow_right (by omega) hc))
 rw [this]; rfl
def shareAt (done : List (List Int)) (c : Nat) : Int := ((done.filter fun fl => bitIn (orAll fl) (c : Int)).length : Int)
def sharesV (N : Nat) (done : List (List Int)) : List Int := (List.range N).map (shareAt done)
def shareRow (N : Nat) (done : List (List Int)) (fl : List Int) (j : Nat) : List Int := (List.range N).map fun c => if c < j then shareAt (done ++ [fl]) c else shareAt done c
def shareSome (N : Nat) (done : List (List Int)) (cs : List Int) : List Int := (List.range N).map fun c => shareAt done c + if (c : Int) ∈ cs then 1 else 0
theorem shareAt_bound (done : List (List Int)) (c : Nat) : 0 ≤ shareAt done c ∧ shareAt done c ≤ (done.length : Int) := by
 unfold shareAt
 have := List.length_filter_le (fun fl => bitIn (orAll fl) (c : Int)) done
 omega
theorem shareAt_snoc (done : List (List Int)) (fl : List Int) (c : Nat) : shareAt (done ++ [fl]) c = shareAt done c + if bitIn (orAll fl) (c : Int) = true then 1 else 0 := by
 unfold shareAt
 rw [List.filter_append, List.length_append]
 by_cases h : bitIn (orAll fl) (c : Int) = true
 ·rw [if_pos h]; simp [h]
 ·rw [if_neg h]; simp [h]
theorem sharesV_len (N : Nat) (done : List (List Int)) : (sharesV N done).length = N := by simp [sharesV]
theorem shareRow_len (N : Nat) (done : List (List Int)) (fl : List Int) (j : Nat) : (shareRow N done fl j).length = N := by simp [shareRow]
theorem shareSome_len (N : Nat) (done : List (List Int)) (cs : List Int) : (shareSome N done cs).length = N := by simp [shareSome]
theorem shareRow_zero (N : Nat) (done : List (List Int)) (fl : List Int) : shareRow N done fl 0 = sharesV N done := by
 unfold shareRow sharesV
 exact List.map_congr_left (fun c _ => by rw [if_neg (by omega)])
theorem shareRow_all (N : Nat) (done : List (List Int)) (fl : List Int) : shareRow N done fl N = sharesV N (done ++ [fl]) := by
 unfold shareRow sharesV
 exact List.map_congr_left (fun c h => by rw [if_pos (List.mem_range.1 h)])
theorem sharesV_nil (N : Nat) : sharesV N [] = List.replicate N 0 := by
 unfold sharesV
 refine List.ext_getElem (by simp) (fun i h1 h2 => ?_)
 simp [shareAt]
theorem shareRow_rd {N : Nat} (done : List (List Int)) (fl : List Int) {j : Nat} (h : j < N) : rd (shareRow N done fl j) (j : Int) = shareAt done j := by
 rw [rd_get _ _ (by rw [shareRow_len]; exact h)]
 simp [shareRow]
theorem shareRow_set {N : Nat} (done : List (List Int)) (fl : List Int) {j : Nat} (h : j < N) : (shareRow N done fl j).set j (shareAt (done ++ [fl]) j) = shareRow N done fl (j + 1) := by
 refine List.ext_getElem (by simp [shareRow]) (fun i h1 h2 => ?_)
 rw [List.getElem_set]
 by_cases e : j = i
 ·subst e
  simp [shareRow]
 ·rw [if_neg e]
  simp only [shareRow, List.getElem_map, List.getElem_range]
  by_cases h3 : i < j
  ·rw [if_pos h3, if_pos (by omega)]
  ·rw [if_neg h3, if_neg (by omega)]
theorem shareSome_nil (N : Nat) (done : List (List Int)) : shareSome N done [] = sharesV N done := by
 unfold shareSome sharesV
 exact List.map_congr_left (fun c _ => by simp)
theorem shareSome_rd {N : Nat} (done : List (List Int)) (cs : List Int) {j : Nat} (h : j < N) (hn : (j : Int) ∉ cs) : rd (shareSome N done cs) (j : Int) = shareAt done j := by
 rw [rd_get _ _ (by rw [shareSome_len]; exact h)]
 simp [shareSome, hn]
theorem shareSome_set {N : Nat} (done : List (List Int)) (cs : List Int) {j : Nat} (h : j < N) (hn : (j : Int) ∉ cs) : (shareSome N done cs).set j (shareAt done j + 1) = shareSome N done (cs ++ [(j : Int)]) := by
 refine List.ext_getElem (by simp [shareSome]) (fun i h1 h2 => ?_)
 rw [List.getElem_set]
 by_cases e : j = i
 ·subst e
  simp [shareSome]
 ·rw [if_neg e]
  simp only [shareSome, List.getElem_map, List.getElem_range, List.mem_append, List.mem_singleton]
  have h3 : ¬ ((i : Int) = (j : Int)) := by omega
  simp only [h3, or_false]
theorem shareSome_all {N : Nat} (done : List (List Int)) (fl : List Int) {n : Nat} (hn : N ≤ n) : shareSome N done (chosenTo (bitIn (orAll fl)) n) = sharesV N (done ++ [fl]) := by
 unfold shareSome sharesV
 refine List.map_congr_left (fun c h => ?_)
 have hc := List.mem_range.1 h
 rw [shareAt_snoc]
 congr 1
 have e : ((c : Int) ∈ chosenTo (bitIn (orAll fl)) n) ↔ bitIn (orAll fl) (c : Int) = true := by
  rw [chosen_iff]
  exact ⟨fun h => h.2.2, fun h => ⟨by omega, by omega, h⟩⟩
 simp only [e]
def impl_agrees.l0 : Nat → List Int → Int → List (S45) → Int → Int → Option (Bool)
 | 0, _, _, _, _, _ => none
 | k + 1, x0, x5, x8, x9, x10 => if x10 < x9 then (if 0 ≤ x10 then (if x10 < (x8.length : Int) then ((impl_answer.f k x0 x5 ((rd_T45 x8 x10).f0)).bind fun t418 => (if t418 = ((rd_T45 x8 x10).f1) then (if 0 ≤ ((rd_T45 x8 x10).f0) then (impl_agrees.l0 k x0 (Go.bits .or .i64 x5 (shl .i64 1 ((rd_T45 x8 x10).f0))) x8 x9 (wrap64 (x10 + 1))) else (none)) else (some false))) else (none)) else (none)) else (some true)
def impl_agrees.f (k : Nat) (l0 : List Int) (l1 : List (S45)) : Option (Bool) := impl_agrees.l0 k l0 0 l1 (l1.length : Int) 0
set_option maxHeartbeats 8000000 in
set_option maxRecDepth 100000 in
theorem impl_agrees.calls (k : Nat) (A0 : Option Addr) (c0 : Nat) (l0 : List Int) (A1 : Option Addr) (c1 : Nat) (l1 : List (S45)) (r : Bool) (w : World) (hr0 : Kd.C (Kd.int .i64) w A0 l0.length l0) (hc0 : l0.length ≤ c0) (hr1 : Kd.C k45 w A1 l1.length l1) (hc1 : l1.length ≤ c1) (h : impl_agrees.f k l0 l1 = some r) :
  Calls Try.prog 59 #[.slice A0 l0.length c0, .slice A1 l1.length c1] w fun e w' => e = .returned (.bool r) ∧ Below w.heap.size w w' := by
 have hu45 := Try.underlying45
 have HR0 := Aside0.mk hr0
 have HC0 := Aside0.mk hc0
 clear hr0 hc0
 have HR1 := Aside0.mk hr1
 have HC1 := Aside0.mk hc1
 clear hr1 hc1
 have HB := Aside0.mk (Below.refl w.heap.size w)
 have H : (impl_agrees.l0 k l0 0 l1 (l1.length : Int) 0) = some r := h
 clear h
 have H' := Aside0.mk H
 clear H
 go_enter Try.func59, Try.ntmps59
 go_wp2
 repeat (go_quiet (fail); try go_wp2)
 go_loopg [5, 10] k (fun kq v5 v10 w' => ∃ (x5_1 : Int) (x10_1 : Int), v5 = .int .i64 x5_1 ∧ v10 = .int .i64 x10_1 ∧ Aside0 (impl_agrees.l0 kq l0 x5_1 l1 (l1.length : Int) x10_1 = some r) ∧ Aside0 (kq ≤ k) ∧ Aside0 (Below w.heap.size w w'))
 case atStart => exact ⟨(0), (0), (by first | rfl | (simp; done) | (simp [*]; done)), (by first | rfl | (simp; done) | (simp [*]; done)), H', ⟨Nat.le_refl _⟩, ⟨by repeat (first | (with_reducible first | exact HB.out | apply ba_ | apply pbN_ | apply bd1_) | exact HB.out)⟩⟩
 case round =>
  clear H'
  (try clear c1); (try clear p2)
  obtain ⟨x5_1, x10_1, rfl, rfl, HA, HK1, HB⟩ := hrel
  cases gk with
  | zero => exact absurd HA.out (by simp [impl_agrees.l0])
  | succ k1 =>
   have H := HA.out
   clear HA
   simp only [impl_agrees.l0] at H
   by_cases c3 : x10_1 < (l1.length : Int)
   ·rw [if_pos c3] at H
    have c3b0 : decide (x10_1 < (l1.length : Int)) = true := decide_eq_true c3
    clear c3
    by_cases c4 : 0 ≤ x10_1
    ·rw [if_pos c4] at H
     have c4b0 : decide (0 ≤ x10_1) = true := decide_eq_true c4
     clear c4
     by_cases c5 : x10_1 < (l1.length : Int)
     ·rw [if_pos c5] at H
      have c5b0 : decide (x10_1 < (l1.length : Int)) = true := decide_eq_true c5
      clear c5
      replace H := Option.bind_eq_some_iff.mp H
      obtain ⟨t418, A60, H⟩ := H
      replace H : (if t418 = ((rd_T45 l1 x10_1).f1) then (if 0 ≤ ((rd_T45 l1 x10_1).f0) then (impl_agrees.l0 k1 l0 (Go.bits .or .i64 x5_1 (shl .i64 1 ((rd_T45 l1 x10_1).f0))) l1 (l1.length : Int) (wrap64 (x10_1 + 1))) else (none)) else (some false)) = some r := H
      have A6 := Aside0.mk A60
      clear A60
      by_cases c7 : t418 = ((rd_T45 l1 x10_1).f1)
      ·rw [if_pos c7] at H
       have c7b0 : (t418 == ((rd_T45 l1 x10_1).f1)) = true := beq_iff_eq.mpr c7
       have c7b1 : (t418 != ((rd_T45 l1 x10_1).f1)) = false := bne_eq_false_iff_eq.mpr c7
       clear c7
       by_cases c8 : 0 ≤ ((rd_T45 l1 x10_1).f0)
       ·rw [if_pos c8] at H
        have c8b0 := eq_true c8
        have c8b1 : decide (0 ≤ ((rd_T45 l1 x10_1).f0)) = true := decide_eq_true c8
        clear c8
        obtain ⟨ji9, hji9⟩ : ∃ j_ : Int, (shl .i64 1 ((rd_T45 l1 x10_1).f0)) = j_ := ⟨_, rfl⟩
        replace H : (impl_agrees.l0 k1 l0 (Go.bits .or .i64 x5_1 (ji9)) l1 (l1.length : Int) (wrap64 (x10_1 + 1))) = some r := by first | (rw [hji9] at H; exact H) | (simp only [hji9] at H ⊢; exact H)
        (try rw [hji9] at A6)
        have hji9_ : (IntKind.i64.wrap (1 * 2 ^ min ((rd_T45 l1 x10_1).f0).toNat 64)) = ji9 := hji9
        have hji9z : ((rd_T45 l1 x10_1).f0) ≤ 64 → (IntKind.i64.wrap (1 * 2 ^ ((rd_T45 l1 x10_1).f0).toNat)) = ji9 := shl_small hji9
        have hji9u : (IntKind.i64.wrap (2 ^ min ((rd_T45 l1 x10_1).f0).toNat 64)) = ji9 := by have h_ := hji9_; rw [Int.one_mul] at h_; exact h_
        have hji9v : ((rd_T45 l1 x10_1).f0) ≤ 64 → (IntKind.i64.wrap (2 ^ ((rd_T45 l1 x10_1).f0).toNat)) = ji9 := fun hle_ => by have h_ := hji9z hle_; rw [Int.one_mul] at h_; exact h_
        have hji9y : (wrap64 (1 * 2 ^ min ((rd_T45 l1 x10_1).f0).toNat 64)) = ji9 := (i64_w _).symm.trans hji9_
        have hji9x : ((rd_T45 l1 x10_1).f0) ≤ 64 → (wrap64 (1 * 2 ^ ((rd_T45 l1 x10_1).f0).toNat)) = ji9 := fun h_ => (i64_w _).symm.trans (hji9z h_)
        have H' := Aside0.mk H
        clear H
        have p416 : 0 ≤ (x10_1 : Int) := oda
        have q416 : x10_1 < (l1.length : Int) := oda
        obtain ⟨ad416, e416, hx416_0, hx416_1⟩ := at_T45 HR1.out x10_1 p416 q416
        cases e416
        replace hx416_0 := (HB.out.cell (World.block_lt_of_cell? w _ hx416_0)).trans hx416_0
        replace hx416_1 := (HB.out.cell (World.block_lt_of_cell? w _ hx416_1)).trans hx416_1
        replace p416 := eq_true p416
        replace q416 := eq_true q416
        go_wp2_with (first | ((with_reducible refine gate_dst (N := 7) rfl ?_); refine box_event ?hg (N := 7) ?hd (cs := #[.int .i64 0, .int .i64 0]) (t := 45) ?hr ?_; (case hd => rfl); (case hg => rfl); (case hr => first | (go_simp; done) | (go_simp; rfl)); intro gb417 hg w10 hbox hb; have n0_ := Aside0.mk (bp_ hb_ hb); have n1_ := Aside0.mk (hbox); have n2_ := Aside0.mk ((by rw [hg]; exact (bz_ hb_) : w.heap.size ≤ gb417)); have n3_ := Aside0.mk ((by rw [hg]; exact (bz_ hb_) : w.heap.size ≤ gb417)); clear HB; have HB := n0_; have BK417 := n1_; have GW417 := n2_; have GE417 := n3_; clear n0_ n1_ n2_ n3_; clear hb hbox hg; have hcz11_0 : w10.cell? ⟨gb417, 0, none⟩ = some (.int .i64 0) := (bc_ BK417.out 0).trans rfl; have hcz11_1 : w10.cell? ⟨gb417, 1, none⟩ = some (.int .i64 0) := (bc_ BK417.out 1).trans rfl; have hfz11_0 := bf_ BK417.out 0; have hfz11_1 := bf_ BK417.out 1) | (go_at_call 24; (with_reducible refine (impl_answer.calls k1 _ _ l0 x5_1 ((rd_T45 l1 x10_1).f0) t418 _ ?side1 ?side2 A6.out).mono ?_); (case side1 => exact Kd.C_below HR0.out (by repeat (first | (with_reducible first | exact HB.out | apply ba_ | apply pbN_ | apply bd1_ | refine bs_ ?_ GE417.out) | exact HB.out))); (case side2 => exact HC0.out); rintro e w' ⟨rfl, ⟨nd, rfl⟩⟩; (try first | exact ⟨rfl, _, World.drewN_drewN _ _ _⟩ | exact ⟨rfl, _, Eq.trans (World.drewN_drewN _ _ _) (congrArg (World.drewN _) (Nat.add_assoc _ _ _))⟩)))
        repeat (go_quiet (first | ((with_reducible refine gate_dst (N := 7) rfl ?_); refine box_event ?hg (N := 7) ?hd (cs := #[.int .i64 0, .int .i64 0]) (t := 45) ?hr ?_; (case hd => rfl); (case hg => rfl); (case hr => first | (go_simp; done) | (go_simp; rfl)); intro gb417 hg w10 hbox hb; have n0_ := Aside0.mk (bp_ hb_ hb); have n1_ := Aside0.mk (hbox); have n2_ := Aside0.mk ((by rw [hg]; exact (bz_ hb_) : w.heap.size ≤ gb417)); have n3_ := Aside0.mk ((by rw [hg]; exact (bz_ hb_) : w.heap.size ≤ gb417)); clear HB; have HB := n0_; have BK417 := n1_; have GW417 := n2_; have GE417 := n3_; clear n0_ n1_ n2_ n3_; clear hb hbox hg; have hcz11_0 : w10.cell? ⟨gb417, 0, none⟩ = some (.int .i64 0) := (bc_ BK417.out 0).trans rfl; have hcz11_1 : w10.cell? ⟨gb417, 1, none⟩ = some (.int .i64 0) := (bc_ BK417.out 1).trans rfl; have hfz11_0 := bf_ BK417.out 0; have hfz11_1 := bf_ BK417.out 1) | (go_at_call 24; (with_reducible refine (impl_answer.calls k1 _ _ l0 x5_1 ((rd_T45 l1 x10_1).f0) t418 _ ?side1 ?side2 A6.out).mono ?_); (case side1 => exact Kd.C_below HR0.out (by repeat (first | (with_reducible first | exact HB.out | apply ba_ | apply pbN_ | apply bd1_ | refine bs_ ?_ GE417.out) | exact HB.out))); (case side2 => exact HC0.out); rintro e w' ⟨rfl, ⟨nd, rfl⟩⟩; (try first | exact ⟨rfl, _, World.drewN_drewN _ _ _⟩ | exact ⟨rfl, _, Eq.trans (World.drewN_drewN _ _ _) (congrArg (World.drewN _) (Nat.add_assoc _ _ _))⟩))); try go_wp2_with (first | ((with_reducible refine gate_dst (N := 7) rfl ?_); refine box_event ?hg (N := 7) ?hd (cs := #[.int .i64 0, .int .i64 0]) (t := 45) ?hr ?_; (case hd => rfl); (case hg => rfl); (case hr => first | (go_simp; done) | (go_simp; rfl)); intro gb417 hg w10 hbox hb; have n0_ := Aside0.mk (bp_ hb_ hb); have n1_ := Aside0.mk (hbox); have n2_ := Aside0.mk ((by rw [hg]; exact (bz_ hb_) : w.heap.size ≤ gb417)); have n3_ := Aside0.mk ((by rw [hg]; exact (bz_ hb_) : w.heap.size ≤ gb417)); clear HB; have HB := n0_; have BK417 := n1_; have GW417 := n2_; have GE417 := n3_; clear n0_ n1_ n2_ n3_; clear hb hbox hg; have hcz11_0 : w10.cell? ⟨gb417, 0, none⟩ = some (.int .i64 0) := (bc_ BK417.out 0).trans rfl; have hcz11_1 : w10.cell? ⟨gb417, 1, none⟩ = some (.int .i64 0) := (bc_ BK417.out 1).trans rfl; have hfz11_0 := bf_ BK417.out 0; have hfz11_1 := bf_ BK417.out 1) | (go_at_call 24; (with_reducible refine (impl_answer.calls k1 _ _ l0 x5_1 ((rd_T45 l1 x10_1).f0) t418 _ ?side1 ?side2 A6.out).mono ?_); (case side1 => exact Kd.C_below HR0.out (by repeat (first | (with_reducible first | exact HB.out | apply ba_ | apply pbN_ | apply bd1_ | refine bs_ ?_ GE417.out) | exact HB.out))); (case side2 => exact HC0.out); rintro e w' ⟨rfl, ⟨nd, rfl⟩⟩; (try first | exact ⟨rfl, _, World.drewN_drewN _ _ _⟩ | exact ⟨rfl, _, Eq.trans (World.drewN_drewN _ _ _) (congrArg (World.drewN _) (Nat.add_assoc _ _ _))⟩))))
        go_roundg k1
        case measure => have := HK1.out; omega
        case rel => exact ⟨(Go.bits .or .i64 x5_1 (ji9)), (wrap64 (x10_1 + 1)), (by first | rfl | (simp; done) | (simp only [← hji9] <;> (first | rfl | simp)) | (simp [*]; done)), (by first | rfl | (simp; done) | (simp [*]; done)), H', ⟨by have := HK1.out; omega⟩, ⟨by repeat (first | (with_reducible first | exact HB.out | apply ba_ | apply pbN_ | apply bd1_ | refine bs_ ?_ GE417.out) | exact HB.out)⟩⟩
       ·rw [if_neg c8] at H
        exact absurd H (by simp)
      ·rw [if_neg c7] at H
       have c7b0 : (t418 == ((rd_T45 l1 x10_1).f1)) = false := beq_eq_false_iff_ne.mpr c7
       have c7b1 : (t418 != ((rd_T45 l1 x10_1).f1)) = true := bne_iff_ne.mpr c7
       obtain rfl := Option.some.inj H
       have p416 : 0 ≤ (x10_1 : Int) := oda
       have q416 : x10_1 < (l1.length : Int) := oda
       obtain ⟨ad416, e416, hx416_0, hx416_1⟩ := at_T45 HR1.out x10_1 p416 q416
       cases e416
       replace hx416_0 := (HB.out.cell (World.block_lt_of_cell? w _ hx416_0)).trans hx416_0
       replace hx416_1 := (HB.out.cell (World.block_lt_of_cell? w _ hx416_1)).trans hx416_1
       replace p416 := eq_true p416
       replace q416 := eq_true q416
       go_wp2_with (first | ((with_reducible refine gate_dst (N := 7) rfl ?_); refine box_event ?hg (N := 7) ?hd (cs := #[.int .i64 0, .int .i64 0]) (t := 45) ?hr ?_; (case hd => rfl); (case hg => rfl); (case hr => first | (go_simp; done) | (go_simp; rfl)); intro gb417 hg w12 hbox hb; have n0_ := Aside0.mk (bp_ hb_ hb); have n1_ := Aside0.mk (hbox); have n2_ := Aside0.mk ((by rw [hg]; exact (bz_ hb_) : w.heap.size ≤ gb417)); have n3_ := Aside0.mk ((by rw [hg]; exact (bz_ hb_) : w.heap.size ≤ gb417)); clear HB; have HB := n0_; have BK417 := n1_; have GW417 := n2_; have GE417 := n3_; clear n0_ n1_ n2_ n3_; clear hb hbox hg; have hcz13_0 : w12.cell? ⟨gb417, 0, none⟩ = some (.int .i64 0) := (bc_ BK417.out 0).trans rfl; have hcz13_1 : w12.cell? ⟨gb417, 1, none⟩ = some (.int .i64 0) := (bc_ BK417.out 1).trans rfl; have hfz13_0 := bf_ BK417.out 0; have hfz13_1 := bf_ BK417.out 1) | (go_at_call 24; (with_reducible refine (impl_answer.calls k1 _ _ l0 x5_1 ((rd_T45 l1 x10_1).f0) t418 _ ?side1 ?side2 A6.out).mono ?_); (case side1 => exact Kd.C_below HR0.out (by repeat (first | (with_reducible first | exact HB.out | apply ba_ | apply pbN_ | apply bd1_ | refine bs_ ?_ GE417.out) | exact HB.out))); (case side2 => exact HC0.out); rintro e w' ⟨rfl, ⟨nd, rfl⟩⟩; (try first | exact ⟨rfl, _, World.drewN_drewN _ _ _⟩ | exact ⟨rfl, _, Eq.trans (World.drewN_drewN _ _ _) (congrArg (World.drewN _) (Nat.add_assoc _ _ _))⟩)))
       repeat (go_quiet (first | ((with_reducible refine gate_dst (N := 7) rfl ?_); refine box_event ?hg (N := 7) ?hd (cs := #[.int .i64 0, .int .i64 0]) (t := 45) ?hr ?_; (case hd => rfl); (case hg => rfl); (case hr => first | (go_simp; done) | (go_simp; rfl)); intro gb417 hg w12 hbox hb; have n0_ := Aside0.mk (bp_ hb_ hb); have n1_ := Aside0.mk (hbox); have n2_ := Aside0.mk ((by rw [hg]; exact (bz_ hb_) : w.heap.size ≤ gb417)); have n3_ := Aside0.mk ((by rw [hg]; exact (bz_ hb_) : w.heap.size ≤ gb417)); clear HB; have HB := n0_; have BK417 := n1_; have GW417 := n2_; have GE417 := n3_; clear n0_ n1_ n2_ n3_; clear hb hbox hg; have hcz13_0 : w12.cell? ⟨gb417, 0, none⟩ = some (.int .i64 0) := (bc_ BK417.out 0).trans rfl; have hcz13_1 : w12.cell? ⟨gb417, 1, none⟩ = some (.int .i64 0) := (bc_ BK417.out 1).trans rfl; have hfz13_0 := bf_ BK417.out 0; have hfz13_1 := bf_ BK417.out 1) | (go_at_call 24; (with_reducible refine (impl_answer.calls k1 _ _ l0 x5_1 ((rd_T45 l1 x10_1).f0) t418 _ ?side1 ?side2 A6.out).mono ?_); (case side1 => exact Kd.C_below HR0.out (by repeat (first | (with_reducible first | exact HB.out | apply ba_ | apply pbN_ | apply bd1_ | refine bs_ ?_ GE417.out) | exact HB.out))); (case side2 => exact HC0.out); rintro e w' ⟨rfl, ⟨nd, rfl⟩⟩; (try first | exact ⟨rfl, _, World.drewN_drewN _ _ _⟩ | exact ⟨rfl, _, Eq.trans (World.drewN_drewN _ _ _) (congrArg (World.drewN _) (Nat.add_assoc _ _ _))⟩))); try go_wp2_with (first | ((with_reducible refine gate_dst (N := 7) rfl ?_); refine box_event ?hg (N := 7) ?hd (cs := #[.int .i64 0, .int .i64 0]) (t := 45) ?hr ?_; (case hd => rfl); (case hg => rfl); (case hr => first | (go_simp; done) | (go_simp; rfl)); intro gb417 hg w12 hbox hb; have n0_ := Aside0.mk (bp_ hb_ hb); have n1_ := Aside0.mk (hbox); have n2_ := Aside0.mk ((by rw [hg]; exact (bz_ hb_) : w.heap.size ≤ gb417)); have n3_ := Aside0.mk ((by rw [hg]; exact (bz_ hb_) : w.heap.size ≤ gb417)); clear HB; have HB := n0_; have BK417 := n1_; have GW417 := n2_; have GE417 := n3_; clear n0_ n1_ n2_ n3_; clear hb hbox hg; have hcz13_0 : w12.cell? ⟨gb417, 0, none⟩ = some (.int .i64 0) := (bc_ BK417.out 0).trans rfl; have hcz13_1 : w12.cell? ⟨gb417, 1, none⟩ = some (.int .i64 0) := (bc_ BK417.out 1).trans rfl; have hfz13_0 := bf_ BK417.out 0; have hfz13_1 := bf_ BK417.out 1) | (go_at_call 24; (with_reducible refine (impl_answer.calls k1 _ _ l0 x5_1 ((rd_T45 l1 x10_1).f0) t418 _ ?side1 ?side2 A6.out).mono ?_); (case side1 => exact Kd.C_below HR0.out (by repeat (first | (with_reducible first | exact HB.out | apply ba_ | apply pbN_ | apply bd1_ | refine bs_ ?_ GE417.out) | exact HB.out))); (case side2 => exact HC0.out); rintro e w' ⟨rfl, ⟨nd, rfl⟩⟩; (try first | exact ⟨rfl, _, World.drewN_drewN _ _ _⟩ | exact ⟨rfl, _, Eq.trans (World.drewN_drewN _ _ _) (congrArg (World.drewN _) (Nat.add_assoc _ _ _))⟩))))
       go_ret
       exact ⟨by first | rfl | (simp [errW_none, errW_some] <;> rfl) | (simp [*, errW_none, errW_some] <;> rfl), by repeat (first | (with_reducible first | exact HB.out | apply ba_ | apply pbN_ | apply bd1_ | refine bs_ ?_ GE417.out) | exact HB.out)⟩
     ·rw [if_neg c5] at H
      exact absurd H (by simp)
    ·rw [if_neg c4] at H
     exact absurd H (by simp)
   ·rw [if_neg c3] at H
    have c3b0 : decide (x10_1 < (l1.length : Int)) = false := decide_eq_false c3
    clear c3
    obtain rfl := Option.some.inj H
    go_wp2
    repeat (go_quiet (fail); try go_wp2)
    go_ret
    exact ⟨by first | rfl | (simp [errW_none, errW_some] <;> rfl) | (simp [*, errW_none, errW_some] <;> rfl), by repeat (first | (with_reducible first | exact HB.out | apply ba_ | apply pbN_ | apply bd1_) | exact HB.out)⟩
theorem rd93_get (l : List S45) (i : Nat) (h : i < l.length) : rd_T45 l (i : Int) = l[i] := by
 show l.getD (i : Int).toNat _ = _
 rw [Int.toNat_natCast, List.getD_eq_getElem?_getD, List.getElem?_eq_getElem h]; rfl
theorem wrap_nat1 {i n : Nat} (h : i < n) (hn : n ≤ 1048576) : wrap64 ((i : Int) + 1) = ((i + 1 : Nat) : Int) := by
 rw [show (i : Int) + 1 = ((i + 1 : Nat) : Int) by omega]; exact wrap_num (by omega)
def agFrom (fl : List Int) : Int → List S45 → Bool
 | _, [] => true
 | set, x :: r => decide (ansFrom fl x.f0 (Go.bits .or .i64 set (shl .i64 1 x.f0)) 0 fl.length = x.f1) && agFrom fl (Go.bits .or .i64 set (shl .i64 1 x.f0)) r
theorem specAgrees_ev {fl : List Int} (hf : NumFleet fl) (hl : fl.length ≤ 1000) (T : List S45) (hT : T.length ≤ 1048576) (hc : SeaCells (T.map fun x => x.f0)) : Ev (fun k => spec_l09Agrees.f k fl T) (agFrom fl 0 T) := by
 unfold spec_l09Agrees.f
 have key : ∀ (d i : Nat) (set : Int), i + d = T.length → Ev (fun k => spec_l09Agrees.l0 k fl T set i) (agFrom fl set (T.drop i)) := by
  intro d
  induction d with
  | zero =>
   intro i set hi
   rw [List.drop_eq_nil_of_le (by omega)]
   refine Ev.step (f := fun _ => some true) (fun k => ?_) (Ev.now _)
   simp only [spec_l09Agrees.l0]
   rw [if_neg (by omega)]
  | succ d ih =>
   intro i set hi
   have hlt : i < T.length := by omega
   have c1 : (i : Int) < (T.length : Int) := by omega
   have c2 : (0 : Int) ≤ (i : Int) := by omega
   have hw := wrap_nat1 hlt hT
   have hrd := rd93_get T i hlt
   have hx := hc T[i].f0 (List.mem_map.2 ⟨T[i], List.getElem_mem _, rfl⟩)
   obtain ⟨q, hq, hq25⟩ : ∃ q : Nat, T[i].f0 = (q : Int) ∧ q < 25 := ⟨T[i].f0.toNat, by omega, by omega⟩
   have hu := u64_nat q (by omega)
   have c3 : (0 : Int) ≤ (q : Int) := by omega
   rw [List.drop_eq_getElem_cons hlt]
   unfold agFrom
   rw [hq]
   have ih1 := ih (i + 1) (Go.bits .or .i64 set (shl .i64 1 (q : Int))) (by omega)
   have ha := specAns_ev hf hl q hq25 (Go.bits .or .i64 set (shl .i64 1 (q : Int)))
   refine Ev.step (f := fun k => (spec_l09Answer.f k fl (q : Int) (Go.bits .or .i64 set (shl .i64 1 (q : Int)))).bind fun t462 => (if t462 = T[i].f1 then (spec_l09Agrees.l0 k fl T (Go.bits .or .i64 set (shl .i64 1 (q : Int))) ((i + 1 : Nat) : Int)) else (some false))) (fun k => ?_) (Ev.bind ha ?_)
   ·simp only [spec_l09Agrees.l0]
    rw [if_pos c1, if_pos c2, hrd, hq, hu, if_pos c3, hw]
   ·by_cases he : ansFrom fl (q : Int) (Go.bits .or .i64 set (shl .i64 1 (q : Int))) 0 fl.length = T[i].f1
    ·rw [decide_eq_true he, Bool.true_and]
     exact Ev.congr (fun k => by rw [if_pos he]) ih1
    ·rw [decide_eq_false he, Bool.false_and]
     exact Ev.congr (f := fun _ => some false) (fun k => by rw [if_neg he]) (Ev.now _)
 have := key T.length 0 0 (by omega)
 rw [List.drop_zero] at this
 exact this
theorem implAgrees_ev {fl : List Int} (hf : NumFleet fl) (hl : fl.length ≤ 1000) (T : List S45) (hT : T.length ≤ 1048576) (hc : SeaCells (T.map fun x => x.f0)) : Ev (fun k => impl_agrees.f k fl T) (agFrom fl 0 T) := by
 unfold impl_agrees.f
 have key : ∀ (d i : Nat) (set : Int), i + d = T.length → Ev (fun k => impl_agrees.l0 k fl set T T.length i) (agFrom fl set (T.drop i)) := by
  intro d
  induction d with
  | zero =>
   intro i set hi
   rw [List.drop_eq_nil_of_le (by omega)]
   refine Ev.step (f := fun _ => some true) (fun k => ?_) (Ev.now _)
   simp only [impl_agrees.l0]
   rw [if_neg (by omega)]
  | succ d ih =>
   intro i set hi
   have hlt : i < T.length := by omega
   have c1 : (i : Int) < (T.length : Int) := by omega
   have c2 : (0 : Int) ≤ (i : Int) := by omega
   have hw := wrap_nat1 hlt hT
   have hrd := rd93_get T i hlt
   have hx := hc T[i].f0 (List.mem_map.2 ⟨T[i], List.getElem_mem _, rfl⟩)
   obtain ⟨q, hq, hq25⟩ : ∃ q : Nat, T[i].f0 = (q : Int) ∧ q < 25 := ⟨T[i].f0.toNat, by omega, by omega⟩
   have c3 : (0 : Int) ≤ (q : Int) := by omega
   rw [List.drop_eq_getElem_cons hlt]
   unfold agFrom
   rw [hq]
   have ih1 := ih (i + 1) (Go.bits .or .i64 set (shl .i64 1 (q : Int))) (by omega)
   have ha := implAns_ev hf hl q hq25 set
   refine Ev.step (f := fun k => (impl_answer.f k fl set (q : Int)).bind fun t820 => (if t820 = T[i].f1 then (impl_agrees.l0 k fl (Go.bits .or .i64 set (shl .i64 1 (q : Int))) T T.length ((i + 1 : Nat) : Int)) else (some false))) (fun k => ?_) (Ev.bind ha ?_)
   ·simp only [impl_agrees.l0]
    rw [if_pos c1, if_pos c2, if_pos c1, hrd, hq, if_pos c3, hw]
   ·by_cases he : ansFrom fl (q : Int) (Go.bits .or .i64 set (shl .i64 1 (q : Int))) 0 fl.length = T[i].f1
    ·rw [decide_eq_true he, Bool.true_and]
     exact Ev.congr (fun k => by rw [if_pos he]) ih1
    ·rw [decide_eq_false he, Bool.false_and]
     exact Ev.congr (f := fun _ => some false) (fun k => by rw [if_neg he]) (Ev.now _)
 have := key T.length 0 0 (by omega)
 rw [List.drop_zero] at this
 exact this
theorem Frame.set {M : Nat → Prop} {W : World} {p : Addr} (v : Value) (h : M p.block) : Frame M M W (W.setCell p v) := ⟨rfl, rfl, rfl, by simp [World.setCell], fun k _ hm => Below.heap_setCell W p v k (fun e => hm (e ▸ h)), fun _ hk => .inl hk⟩
structure ShNe (w00 : World) (g3 ga gb go : Nat) : Prop where
 a3 : g3 ≠ ga
 ab : gb ≠ ga
 ao : ga ≠ go
 o3 : g3 ≠ go
 ob : gb ≠ go
 za : w00.heap.size ≤ ga
 zo : w00.heap.size ≤ go
structure ShEnv (w00 : World) (g3 ga gb go co : Nat) (A3 : Option Addr) (c3 : Nat) (T : List S45) (N : Nat) (A : Option Addr) (list : List Int) (cnt : Int) (row : List Int) (W0 W : World) : Prop where
 below : Below w00.heap.size w00 W
 b3 : W.heap[g3]? = some (.cells #[.slice A3 T.length c3] 39 (0, 0))
 bb : W.heap[gb]? = some (.cells #[.slice (some ⟨go, 0, none⟩) N co] 22 (0, 0))
 ba : W.heap[ga]? = some (.cells #[.int .i64 cnt] 2 (0, 0))
 row : Kd.R (Kd.int .i64) 2 W w00.heap.size (fun k => k = go) (.slice (some ⟨go, 0, none⟩) N co) row
 cl : Clear (fun k => k = ga ∨ k = go) W A list
 fr : Frame (fun k => k = ga ∨ k = go) (fun k => k = ga ∨ k = go) W0 W
theorem ShEnv.stay {w00 : World} {g3 ga gb go co : Nat} {A3 : Option Addr} {c3 : Nat} {T : List S45} {N : Nat} {A : Option Addr} {list : List Int} {cnt : Int} {row : List Int} {W0 W W' : World} (h : ShEnv w00 g3 ga gb go co A3 c3 T N A list cnt row W0 W) (hb : Below W.heap.size W W') : ShEnv w00 g3 ga gb go co A3 c3 T N A list cnt row W0 W' :=
 ⟨bp_ h.below hb, bb_ h.b3 hb, bb_ h.bb hb, bb_ h.ba hb, Kd.R_below h.row hb, h.cl.frame (Frame.below hb), h.fr.trans (Frame.below hb)⟩
theorem ShEnv.setA {w00 : World} {g3 ga gb go co : Nat} {A3 : Option Addr} {c3 : Nat} {T : List S45} {N : Nat} {A : Option Addr} {list : List Int} {cnt : Int} {row : List Int} {W0 W : World} (h : ShEnv w00 g3 ga gb go co A3 c3 T N A list cnt row W0 W) (hn : ShNe w00 g3 ga gb go) (z : Int) : ShEnv w00 g3 ga gb go co A3 c3 T N A list z row W0 (W.setCell ⟨ga, 0, none⟩ (.int .i64 z)) :=
 have hf := Frame.set (M := fun k => k = ga ∨ k = go) (W := W) (p := ⟨ga, 0, none⟩) (.int .i64 z) (.inl rfl)
 ⟨bs_ h.below hn.za, blk_far (p := ⟨ga, 0, none⟩) h.b3 hn.a3 _, blk_far (p := ⟨ga, 0, none⟩) h.bb hn.ab _, blk_put h.ba 0 _ rfl, Kd.R_far (p := ⟨ga, 0, none⟩) h.row (fun k hk => by subst hk; exact fun e => hn.ao e.symm) _, h.cl.frame hf, h.fr.trans hf⟩
theorem ShEnv.setRow {w00 : World} {g3 ga gb go co : Nat} {A3 : Option Addr} {c3 : Nat} {T : List S45} {N : Nat} {A : Option Addr} {list : List Int} {cnt : Int} {row : List Int} {W0 W : World} (h : ShEnv w00 g3 ga gb go co A3 c3 T N A list cnt row W0 W) (hn : ShNe w00 g3 ga gb go) {j : Nat} {z : Int} (_hj : j < N) : ShEnv w00 g3 ga gb go co A3 c3 T N A list cnt (row.set j z) W0 (W.setCell ⟨go, j, none⟩ (.int .i64 z)) := by
 have hf := Frame.set (M := fun k => k = ga ∨ k = go) (W := W) (p := ⟨go, j, none⟩) (.int .i64 z) (.inr rfl)
 have hr := Kd.R_putn h.row (j : Int) z
 rw [Int.toNat_natCast] at hr
 exact ⟨bs_ h.below hn.zo, blk_far (p := ⟨go, j, none⟩) h.b3 hn.o3 _, blk_far (p := ⟨go, j, none⟩) h.bb hn.ob _, blk_far (p := ⟨go, j, none⟩) h.ba hn.ao _, hr, h.cl.frame hf, h.fr.trans hf⟩
theorem ShEnv.rowblk {w00 : World} {g3 ga gb go co : Nat} {A3 : Option Addr} {c3 : Nat} {T : List S45} {N : Nat} {A : Option Addr} {list : List Int} {cnt : Int} {row : List Int} {W0 W : World} (h : ShEnv w00 g3 ga gb go co A3 c3 T N A list cnt row W0 W) (hp : 0 < N) : ∃ cells, W.heap[go]? = some (.cells cells 2 (0, 0)) := by
 have e := (Kd.R_reads' h.row).1
 obtain ⟨g, cap, e2, _, _, cells, hc⟩ := Kd.R_form h.row (by omega)
 injection e2 with e3
 injection e3 with e3
 injection e3 with e3
 subst e3
 exact ⟨cells, hc⟩
def impl_Sea_shares_1.T5 : Bool × List (List Nat × List Nat) := (true, [([], []), ([], []), ([0, 1], [0, 1]), ([2], [2]), ([], []), ([4], [4]), ([], []), ([5, 6], [5, 6]), ([7], [7]), ([3, 8], [3, 8]), ([0, 1, 0, 1, 2, 3, 4, 5, 6, 7, 8, 9], [0, 1]), ([10, 9, 5, 0, 1, 2, 3, 4, 5, 6, 7, 8, 9], [9, 10])])
def impl_Sea_shares_1.B5 : List Nat := [0, 0, 3, 7, 0, 16, 0, 112, 240, 511, 1023, 2047]
theorem impl_Sea_shares_1.tab5 : rtab .any (opsOf Try.f58 5) = impl_Sea_shares_1.T5 := by kernel_rfl
theorem impl_Sea_shares_1.bits5 : waitsOk impl_Sea_shares_1.T5.2 impl_Sea_shares_1.B5 = true := by kernel_rfl

set_option maxHeartbeats 8000000 in
set_option maxRecDepth 100000 in
theorem impl_Sea_shares_1.does (w00 : World) (g3 ga gb go co : Nat) (A3 : Option Addr) (c3 : Nat) (T : List S45) (N : Nat) (A : Option Addr) (list : List Int) (c : Nat) (done : List (List Int)) (W : World) (ka kw : Nat) (hne : ShNe w00 g3 ga gb go) (hT : Kd.C k45 w00 A3 T.length T) (hTc : T.length ≤ c3) (hlc : list.length ≤ c) (hN : 0 < N ∧ N ≤ 25) (hd : done.length ≤ 1000000)
  (hag : impl_agrees.f ka list T = some (agFrom list 0 T)) (hwh : impl_whole.f kw list = some (orAll list)) (hbit : ∀ j : Nat, j < N → Go.bits .and .i64 (shr .i64 (orAll list) (j : Int)) 1 = if bitIn (orAll list) (j : Int) = true then 1 else 0) (h : ShEnv w00 g3 ga gb go co A3 c3 T N A list (done.length : Int) (sharesV N done) W W) :
  Calls Try.prog 58 #[.slice A list.length c, .pointer (some ⟨g3, 0, none⟩), .pointer (some ⟨ga, 0, none⟩), .pointer (some ⟨gb, 0, none⟩)] W fun e w' => e = .returned (.tuple #[]) ∧ ShEnv w00 g3 ga gb go co A3 c3 T N A list ((if agFrom list 0 T = true then done ++ [list] else done).length : Int) (sharesV N (if agFrom list 0 T = true then done ++ [list] else done)) W w' := by
 have HNe := Aside0.mk hne
 have HT := Aside0.mk hT
 have HTc := Aside0.mk hTc
 have HLc := Aside0.mk hlc
 have HE := Aside0.mk h
 clear hne hT hTc hlc h
 cases hg0 : agFrom list 0 T with
 | false =>
  rw [hg0] at hag
  rw [if_neg (by simp)]
  have HAg := Aside0.mk hag
  clear hag hwh hbit hg0 hN hd
  have h3_ := (bc_ HE.out.b3 0).trans rfl
  have ha_ := (bc_ HE.out.ba 0).trans rfl
  have hb_ := (bc_ HE.out.bb 0).trans rfl
  go_enter Try.func58, Try.ntmps58
  go_wp2_with (first | (go_at_call 59; refine (impl_agrees.calls ka A c list A3 c3 T _ _ HE.out.cl.1 HLc.out (Kd.C_below HT.out HE.out.below) HTc.out HAg.out).mono ?_; rintro e w1 ⟨rfl, hb⟩; (try clear h3_); (try clear ha_); (try clear hb_); (try clear hfa); have n_ := Aside0.mk (HE.out.stay hb); clear HE hb; have HE := n_; clear n_; have h3_ := (bc_ HE.out.b3 0).trans rfl; have ha_ := (bc_ HE.out.ba 0).trans rfl; have hb_ := (bc_ HE.out.bb 0).trans rfl; have hfa := bf_ HE.out.ba 0))
  refine bodyPost_ret (results_none rfl _ _ _) rfl ?_
  exact ⟨rfl, HE.out⟩
 | true =>
  rw [hg0] at hag
  rw [if_pos rfl]
  have HAg := Aside0.mk hag
  obtain ⟨V, hV⟩ : ∃ V, orAll list = V := ⟨_, rfl⟩
  have HVs := Aside0.mk (fun (j : Nat) (_ : j < N) => show shareAt (done ++ [list]) j = shareAt done j + if bitIn V (j : Int) = true then 1 else 0 by rw [shareAt_snoc, hV])
  rw [hV] at hwh hbit
  have HWh := Aside0.mk hwh
  have HBit := Aside0.mk hbit
  have HNp := Aside0.mk hN.1
  have HN25 := Aside0.mk hN.2
  have HD := Aside0.mk hd
  obtain ⟨z, hz⟩ : ∃ z : Int, ((done ++ [list]).length : Int) = z := ⟨_, rfl⟩
  have hw : wrap64 ((done.length : Int) + 1) = z := by rw [← hz, List.length_append, List.length_singleton]; unfold wrap64; omega
  rw [hz]
  clear hag hwh hbit hg0 hV hN hd hz
  have h3_ := (bc_ HE.out.b3 0).trans rfl
  have ha_ := (bc_ HE.out.ba 0).trans rfl
  have hb_ := (bc_ HE.out.bb 0).trans rfl
  go_enter Try.func58, Try.ntmps58
  go_wp2_with (first | (go_at_call 59; refine (impl_agrees.calls ka A c list A3 c3 T _ _ HE.out.cl.1 HLc.out (Kd.C_below HT.out HE.out.below) HTc.out HAg.out).mono ?_; rintro e w1 ⟨rfl, hb⟩; (try clear h3_); (try clear ha_); (try clear hb_); (try clear hfa); have n_ := Aside0.mk (HE.out.stay hb); clear HE hb; have HE := n_; clear n_; have h3_ := (bc_ HE.out.b3 0).trans rfl; have ha_ := (bc_ HE.out.ba 0).trans rfl; have hb_ := (bc_ HE.out.bb 0).trans rfl; have hfa := bf_ HE.out.ba 0) | ((with_reducible refine gate_store (t := 2) (p := 2) rfl ?_); refine store_event (t := 2) (p := 2) (v := .tmp 11) (w1 := (w1.setCell ⟨ga, 0, none⟩ (.int .i64 z))) ?hg ?ho ?hn ?hr ?_; (case ho => rfl); (case hg => rfl); (case hn => rfl); (case hr => first | (go_simp; done) | (go_simp; rfl)); intro w5 hw5; (try clear h3_); (try clear ha_); (try clear hb_); (try clear hfa); have n_ := HE.out.setA HNe.out z; rw [← hw5] at n_; clear HE hw5; have HE := Aside0.mk n_; clear n_; have h3_ := (bc_ HE.out.b3 0).trans rfl; have ha_ := (bc_ HE.out.ba 0).trans rfl; have hb_ := (bc_ HE.out.bb 0).trans rfl))
  clear hw
  (try clear h3_)
  (try clear ha_)
  (try clear hb_)
  (try clear hfa)
  go_loopg [14] N (fun gg s14 wr => ∃ j : Nat, j ≤ N ∧ N - j ≤ gg ∧ s14 = .int .i64 j ∧ Aside0 (ShEnv w00 g3 ga gb go co A3 c3 T N A list z (shareRow N done list j) W wr))
  case atStart => exact ⟨0, Nat.zero_le _, Nat.le_refl _, rfl, ⟨by rw [shareRow_zero]; exact HE.out⟩⟩
  case round =>
   clear HE
   obtain ⟨j, hj, hgj, rfl, HE⟩ := hrel
   by_cases hlt : j < N
   ·obtain ⟨adj, eqj, hxj⟩ := Kd.at_int (Kd.R_reads' HE.out.row).2.2 (j : Int) (by omega) (by rw [shareRow_len]; omega)
    injection eqj with eqj
    subst eqj
    rw [Int.toNat_natCast, shareRow_rd _ _ hlt, add_at, Nat.zero_add] at hxj
    have hsb := shareAt_bound done j
    have HJm := Aside0.mk (show N - (j + 1) < gk by omega)
    have HJr := Aside0.mk (show j + 1 ≤ N by omega)
    have HJlt := Aside0.mk hlt
    have HJs := Aside0.mk (show wrap64 ((j : Int) + 1) = ((j + 1 : Nat) : Int) from wrap_one (a := j) (by have := HN25.out; omega))
    obtain ⟨sv, hsv⟩ : ∃ sv, shareAt done j = sv := ⟨_, rfl⟩
    have hs2 := HVs.out j hlt
    rw [hsv] at hxj hsb hs2
    have hbt := HBit.out j hlt
    obtain ⟨bt, hbt2⟩ : ∃ bt : Int, (if bitIn V (j : Int) = true then (1 : Int) else 0) = bt := ⟨_, rfl⟩
    rw [hbt2] at hbt hs2
    have hb01 : 0 ≤ bt ∧ bt ≤ 1 := by rw [← hbt2]; split <;> omega
    obtain ⟨sz, hsz⟩ : ∃ sz, shareAt (done ++ [list]) j = sz := ⟨_, rfl⟩
    have hwz : wrap64 (sv + bt) = sz := by rw [← hsz, hs2]; have := HD.out; unfold wrap64; omega
    have hbt3 : Go.bits .and .i64 (V / 2 ^ (min j 64)) 1 = bt := hbt
    have HSv := Aside0.mk (show (shareRow N done list j).set j sz = shareRow N done list (j + 1) by rw [← hsz]; exact shareRow_set done list hlt)
    have q1 := decide_eq_true (show (j : Int) < (N : Int) by omega)
    have q2 := decide_eq_true hlt
    have q3 := eq_true (show (j : Int) < (N : Int) by omega)
    have q4 := eq_true (show (0 : Int) ≤ (j : Int) by omega)
    have q5 := eq_true hlt
    have q6 := eq_false (show ¬ (j : Int) < 0 by omega)
    have q7 := decide_eq_false (show ¬ (j : Int) < 0 by omega)
    clear hsb hs2 hbt2 hb01 hsz hsv hj hgj hlt
    have h3_ := (bc_ HE.out.b3 0).trans rfl
    have ha_ := (bc_ HE.out.ba 0).trans rfl
    have hb_ := (bc_ HE.out.bb 0).trans rfl
    go_wp2_with fail
    refine start_ (n := 12) (S := fun w' => w'.cell? ⟨gb, 0, none⟩ = some (.slice (some ⟨go, 0, none⟩) N co) ∧ w'.cell? ⟨go, j, none⟩ = some (.int .i64 sv)) (ds := [11]) #[false, false, false, false, false, false, false, false, false, false, false, false] (by kernel_rfl) rfl rfl ⟨(bc_ (bkd_ HE.out.bb) 0).trans rfl, ((bd1_ (Below.refl wr.heap.size wr)).cell (World.block_lt_of_cell? _ _ hxj)).trans hxj⟩ (fun hHeld => ?_)
    refine with_tabW impl_Sea_shares_1.tab5 impl_Sea_shares_1.bits5 (fun HT_ HW_ => ?_)
    have HEd := Aside0.mk (HE.out.stay (bd1_ (Below.refl wr.heap.size wr)))
    have hxd := ((bd1_ (Below.refl wr.heap.size wr)).cell (World.block_lt_of_cell? _ _ hxj)).trans hxj
    clear HE hxj h3_ ha_ hb_
    generalize hq_ : wr.drew = wd_ at HEd hxd hHeld ⊢
    clear hq_
    refine take_ (i := 0) (N := some 17) (v := ?_) (a' := ?_) (flg_ 12 1) rfl rfl (take_ofW HT_.out HW_.out (by kernel_rfl)) (fun _ _ _ h => h) (Or.inl ⟨by rfl, ?_⟩) hHeld ?_ ?_
    rotate_left; (· (rintro w' ⟨s0_, s1_⟩; go_simp; with_reducible rfl)); rotate_left; (· (simp only [Act.put, sz_, s0_, s1_, i64_w, i32_w]; rfl))
    refine pure_ (i := 1) (N := some 18) (v := ?_) (a' := ?_) (flg_ 12 3) rfl rfl (any_of HT_.out (by kernel_rfl)) (fun _ _ _ h => h) (Or.inl ⟨by rfl, ?_⟩) ?_ ?_
    rotate_left; (· (intro w'; go_simp; with_reducible rfl)); rotate_left; (· (simp only [Act.put, sz_, s0_, s1_, i64_w, i32_w]; rfl))
    refine pure_ (i := 2) (N := some 19) (v := ?_) (a' := ?_) (flg_ 12 7) rfl rfl (any_of HT_.out (by kernel_rfl)) (fun _ _ _ h => h) (Or.inl ⟨by rfl, ?_⟩) ?_ ?_
    rotate_left; (· (intro w'; go_simp; with_reducible rfl)); rotate_left; (· (simp only [Act.put, sz_, s0_, s1_, i64_w, i32_w]; rfl))
    refine take_ (i := 3) (N := some 20) (v := ?_) (a' := ?_) (flg_ 12 15) rfl rfl (take_ofW HT_.out HW_.out (by kernel_rfl)) (fun _ _ _ h => h) (Or.inl ⟨by rfl, ?_⟩) hHeld ?_ ?_
    rotate_left; (· (rintro w' ⟨s0_, s1_⟩; go_simp; with_reducible rfl)); rotate_left; (· (simp only [Act.put, sz_, s0_, s1_, i64_w, i32_w]; rfl))
    refine pure_ (i := 4) (N := some 21) (v := ?_) (a' := ?_) (flg_ 12 31) rfl rfl (any_of HT_.out (by kernel_rfl)) (fun _ _ _ h => h) (Or.inl ⟨by rfl, ?_⟩) ?_ ?_
    rotate_left; (· (intro w'; go_simp; with_reducible rfl)); rotate_left; (· (simp only [Act.put, sz_, s0_, s1_, i64_w, i32_w]; rfl))
    refine pure_ (i := 6) (N := some 23) (v := ?_) (a' := ?_) (flg_ 12 95) rfl rfl (any_of HT_.out (by kernel_rfl)) (fun _ _ _ h => h) (Or.inl ⟨by rfl, ?_⟩) ?_ ?_
    rotate_left; (· (intro w'; go_simp; with_reducible rfl)); rotate_left; (· (simp only [Act.put, sz_, s0_, s1_, i64_w, i32_w]; rfl))
    refine one_ (i := 5) (N := some 22) (flg_ 12 127) rfl rfl (one_of HT_.out (by kernel_rfl)) (by decide) (fun K hK => ?_)
    refine goes_ Try.func22 (by kernel_rfl) rfl #[.slice A list.length c] (by rfl) rfl rfl (by (try simp only [List.map_toArray, List.map_cons, List.map_nil]); first | done | rfl) ?_
    refine (impl_whole.calls kw A c list V wd_ HEd.out.cl.1 HLc.out HWh.out).mono ?_
    rintro e w6 ⟨rfl, hd⟩
    have hb := hd.below
    clear hd
    refine ⟨_, rfl, ?_⟩
    have HE := Aside0.mk (HEd.out.stay hb)
    have hx6 := (hb.cell (World.block_lt_of_cell? _ _ hxd)).trans hxd
    clear HEd hb hxd
    refine hK.out _ _ ⟨(bc_ HE.out.bb 0).trans rfl, hx6⟩ (fun hHeld => ?_)
    clear hK K
    refine norm_ (a' := ?_) ?_ ?_
    rotate_left
    ·show Act.put _ (some 22) _ = _
     simp only [Act.put, sz_, s0_, s1_, i64_w, i32_w]
     rfl
    refine pure_ (i := 7) (N := some 24) (v := ?_) (a' := ?_) (flg_ 12 255) rfl rfl (any_of HT_.out (by kernel_rfl)) (fun _ _ _ h => h) (Or.inl ⟨by rfl, ?_⟩) ?_ ?_
    rotate_left; (· (intro w'; go_simp; with_reducible rfl)); rotate_left; (· (simp only [Act.put, sz_, s0_, s1_, i64_w, i32_w]; rfl))
    refine pure_ (i := 8) (N := some 25) (v := ?_) (a' := ?_) (flg_ 12 511) rfl rfl (any_of HT_.out (by kernel_rfl)) (fun _ _ _ h => h) (Or.inl ⟨by rfl, ?_⟩) ?_ ?_
    rotate_left; (· (intro w'; go_simp; with_reducible rfl)); rotate_left; (· (simp only [Act.put, sz_, s0_, s1_, i64_w, i32_w]; rfl))
    refine pure_ (i := 9) (N := some 26) (v := ?_) (a' := ?_) (flg_ 12 1023) rfl rfl (any_of HT_.out (by kernel_rfl)) (fun _ _ _ h => h) (Or.inl ⟨by rfl, ?_⟩) ?_ ?_
    rotate_left; (· (intro w'; go_simp; with_reducible rfl)); rotate_left; (· (simp only [Act.put, sz_, s0_, s1_, i64_w, i32_w]; rfl))
    refine pure_ (i := 10) (N := some 27) (v := ?_) (a' := ?_) (flg_ 12 2047) rfl rfl (any_of HT_.out (by kernel_rfl)) (fun _ _ _ h => h) (Or.inl ⟨by rfl, ?_⟩) ?_ ?_
    rotate_left; (· (intro w'; go_simp; with_reducible rfl)); rotate_left; (· (simp only [Act.put, sz_, s0_, s1_, i64_w, i32_w]; rfl))
    refine last_ (i := 11) (N := none) (flg_ 12 4095) rfl rfl (one_of HT_.out (by kernel_rfl)) (by decide) (fun K hK => ?_)
    obtain ⟨rc_, hrb⟩ := HE.out.rowblk HNp.out
    have hfR := bf_ hrb j
    refine skip_ (w1 := w6.setCell ⟨go, j, none⟩ (.int .i64 sz)) (by rfl) rfl ?_ ?_
    ·go_simp
     (try rw [hbt3, hwz])
     (try rfl)
    refine hK.out _ _ ?_
    clear hK K hfR hrb hx6 hHeld
    have n_ := HE.out.setRow (z := sz) HNe.out HJlt.out
    rw [HSv.out] at n_
    clear HE
    have HE := Aside0.mk n_
    clear n_
    generalize w6.setCell ⟨go, j, none⟩ (.int .i64 sz) = w7 at HE ⊢
    refine done_ (done_of HT_.out (by kernel_rfl)) ?_
    go_wp2_with fail
    go_roundg (N - (j + 1))
    case measure => exact HJm.out
    case rel => exact ⟨j + 1, HJr.out, Nat.le_refl _, (by first | rfl | exact congrArg (Value.int .i64) HJs.out), HE⟩
   ·have hje : j = N := by omega
    subst hje
    have q1 := decide_eq_false (show ¬ (j : Int) < (j : Int) by omega)
    go_wp2_with fail
    go_end0
    exact ⟨rfl, by have := HE.out; rwa [shareRow_all] at this⟩
def goOk (ships list : List Int) (own used : Int) : Bool := decide (Go.bits .and .i64 own used = 0) && !(decide (0 < list.length) && (decide (rd ships (list.length : Int) = rd ships ((list.length : Int) - 1)) && decide (own < rd list ((list.length : Int) - 1))))
def goStep (most : Int) (ok : Int → Bool) (F : Int → Int → List (List Int)) (out : List (List Int)) (own : Int) : List (List Int) :=
 if most < 0 ∨ (out.length : Int) < most then (if ok own = true then out ++ F own (if most < 0 then most else most - (out.length : Int)) else out) else out
def goV (W H : Nat) (ships : List Int) (T : List S45) : Nat → List Int → Int → Int → List (List Int)
 | 0, list, _, _ => if agFrom list 0 T = true then [list] else []
 | d + 1, list, used, most => (placeOf W H ships list.length).foldl (goStep most (fun own => goOk ships list own used) (fun own rest => goV W H ships T d (list ++ [own]) (Go.bits .or .i64 used own) rest)) []
theorem foldl_all (ok : Int → Bool) (F : Int → Int → List (List Int)) (most : Int) (hm : most < 0) : ∀ (P : List Int) (out : List (List Int)), P.foldl (goStep most ok F) out = out ++ P.flatMap fun own => if ok own = true then F own most else []
 | [], out => by simp
 | x :: P, out => by
  rw [List.foldl_cons, foldl_all ok F most hm P, List.flatMap_cons]
  unfold goStep
  rw [if_pos (.inl hm), if_pos hm]
  split <;> simp
theorem flat_congr {α β : Type} (F G : α → List β) : ∀ P : List α, (∀ x ∈ P, F x = G x) → P.flatMap F = P.flatMap G
 | [], _ => rfl
 | x :: P, h => by
  rw [List.flatMap_cons, List.flatMap_cons, h x (List.mem_cons_self ..), flat_congr F G P (fun y hy => h y (List.mem_cons_of_mem _ hy))]
theorem goV_all {W H : Nat} (hW : 1 ≤ W ∧ W ≤ 5) (hH : 1 ≤ H ∧ H ≤ 5) (ships : List Int) (hs : ∀ j : Nat, j < ships.length → inW (rd ships (j : Int)) 1 5 = true) (T : List S45) (most : Int) (hm : most < 0) :
  ∀ (d : Nat) (list : List Int) (used : Nat), list.length + d = ships.length → UsedBy list list.length used → goV W H ships T d list (used : Int) most = (fleetsFrom W H ships d list).filter fun fl => agFrom fl 0 T
 | 0, list, used, _, _ => by
  unfold goV fleetsFrom
  by_cases h : agFrom list 0 T = true <;> simp [h]
 | d + 1, list, used, hd, hu => by
  unfold goV fleetsFrom
  rw [foldl_all _ _ most hm, List.nil_append, List.filter_flatMap]
  have hP : ∀ own ∈ placeOf W H ships list.length, ∃ m : Nat, own = (m : Int) ∧ 0 < m ∧ m < 33554432 := by
   obtain ⟨n, hn, hn1, hn5⟩ := inW_five (hs list.length (by omega))
   unfold placeOf
   rw [hn, Int.toNat_natCast]
   exact placesOf_num hW.1 hW.2 hH.2 hn1
  have key : ∀ own ∈ placeOf W H ships list.length, (if goOk ships list own (used : Int) = true then goV W H ships T d (list ++ [own]) (Go.bits .or .i64 (used : Int) own) most else []) = (if goesV ships list own = true then fleetsFrom W H ships d (list ++ [own]) else []).filter fun fl => agFrom fl 0 T := by
   intro own ho
   obtain ⟨m, rfl, h0, h1⟩ := hP own ho
   have hlen : list.length < (list ++ [(m : Int)]).length := by simp
   have hrd : rd (list ++ [(m : Int)]) (list.length : Int) = (m : Int) := by rw [rd_get _ _ hlen]; simp
   have hpre : ∀ j : Nat, j < list.length → rd (list ++ [(m : Int)]) (j : Int) = rd list (j : Int) := fun j hj => by
    rw [rd_get _ _ (by simp; omega), rd_get _ _ hj, List.getElem_append_left hj]
   have hu' : UsedBy (list ++ [(m : Int)]) list.length used := by
    obtain ⟨u1, u2, u3⟩ := hu
    refine ⟨u1, fun j hj => by rw [hpre j hj]; exact u2 j hj, fun q => ?_⟩
    rw [u3]
    constructor
    ·intro h j hj; unfold numAt; rw [hpre j hj]; exact h j hj
    ·intro h j hj; have := h j hj; unfold numAt at this; rw [hpre j hj] at this; exact this
   have hgo := next_goes (ships := ships) hu' hlen hrd h0 h1
   rw [hrd, List.take_left' rfl] at hgo
   have hok : goOk ships list (m : Int) (used : Int) = goesV ships list (m : Int) := by
    rw [hgo]
    unfold goOk nextOk
    have hna : numAt (list ++ [(m : Int)]) list.length = m := by unfold numAt; rw [hrd, Int.toNat_natCast]
    rw [hna, hrd, bits_and_nat m used (Nat.lt_of_lt_of_le h1 pow25_le) (Nat.lt_of_lt_of_le hu.1 pow25_le)]
    have hz : decide (((m &&& used : Nat) : Int) = 0) = decide (m &&& used = 0) := decide_eq_decide.2 (by omega)
    rw [hz]
    by_cases hl : 0 < list.length
    ·obtain ⟨p, hp⟩ : ∃ p, list.length = p + 1 := ⟨list.length - 1, by omega⟩
     have e : (list.length : Int) - 1 = (p : Int) := by omega
     rw [e, hpre p (by omega)]
    ·rw [decide_eq_false hl]; rfl
   rw [hok]
   by_cases hg : goesV ships list (m : Int) = true
   ·rw [if_pos hg, if_pos hg, bits_or_nat used m (Nat.lt_of_lt_of_le hu.1 pow25_le) (Nat.lt_of_lt_of_le h1 pow25_le)]
    refine goV_all hW hH ships hs T most hm d (list ++ [(m : Int)]) (used ||| m) (by simp; omega) ?_
    rw [show (list ++ [(m : Int)]).length = list.length + 1 by simp]
    exact used_step hu' hrd h0 h1
   ·rw [if_neg hg, if_neg hg]; rfl
  exact flat_congr _ _ _ key

def InPl (W H : Nat) (ships list : List Int) : Prop := ∀ (j : Nat) (h : j < list.length), list[j] ∈ placeOf W H ships j
theorem InPl.nil {W H : Nat} {ships : List Int} : InPl W H ships [] := fun j h => absurd h (by simp)
theorem InPl.snoc {W H : Nat} {ships list : List Int} {own : Int} (h : InPl W H ships list) (ho : own ∈ placeOf W H ships list.length) : InPl W H ships (list ++ [own]) := fun j hj => by
 rw [List.length_append, List.length_singleton] at hj
 by_cases hl : j < list.length
 ·rw [List.getElem_append_left hl]; exact h j hl
 ·have e : j = list.length := by omega
  subst e
  rw [List.getElem_append_right (Nat.le_refl _)]
  simpa using ho
theorem step_len (most : Int) (ok : Int → Bool) (F : Int → Int → List (List Int)) (n : Nat) (hF : ∀ own rest, (F own rest).length ≤ n) (out : List (List Int)) (own : Int) : (goStep most ok F out own).length ≤ out.length + n := by
 unfold goStep
 split
 ·split
  ·rw [List.length_append]; have := hF own (if most < 0 then most else most - (out.length : Int)); omega
  ·omega
 ·omega
theorem fold_len (most : Int) (ok : Int → Bool) (F : Int → Int → List (List Int)) (n : Nat) (hF : ∀ own rest, (F own rest).length ≤ n) : ∀ (P : List Int) (out : List (List Int)), (P.foldl (goStep most ok F) out).length ≤ out.length + P.length * n
 | [], out => by simp
 | x :: P, out => by
  rw [List.foldl_cons, List.length_cons, Nat.succ_mul]
  have h1 := fold_len most ok F n hF P (goStep most ok F out x)
  have h2 := step_len most ok F n hF out x
  omega
theorem goV_len (W H : Nat) (ships : List Int) (T : List S45) (hpl : ∀ j, (placeOf W H ships j).length ≤ 100) : ∀ (d : Nat) (list : List Int) (used most : Int), (goV W H ships T d list used most).length ≤ 100 ^ d
 | 0, list, used, most => by unfold goV; split <;> simp
 | d + 1, list, used, most => by
  unfold goV
  refine Nat.le_trans (fold_len most _ _ (100 ^ d) (fun own rest => goV_len W H ships T hpl d _ _ _) _ _) ?_
  have := Nat.mul_le_mul_right (100 ^ d) (hpl list.length)
  rw [Nat.pow_succ, Nat.mul_comm (100 ^ d)]
  simp only [List.length_nil]
  omega
theorem fold_stuck (most : Int) (ok : Int → Bool) (F : Int → Int → List (List Int)) (hm : ¬ most < 0) : ∀ (P : List Int) (out : List (List Int)), most ≤ (out.length : Int) → P.foldl (goStep most ok F) out = out
 | [], out, _ => rfl
 | x :: P, out, h => by
  have e : goStep most ok F out x = out := by unfold goStep; rw [if_neg (by omega)]
  rw [List.foldl_cons, e]
  exact fold_stuck most ok F hm P out h
theorem go_rows (most : Int) (ok : Int → Bool) (F : Int → Int → List (List Int)) (n : Nat) (hF : ∀ own rest, (F own rest).length ≤ n) (P : List Int) : ∃ O : Nat → List (List Int), O 0 = [] ∧ (∀ (j : Nat) (h : j < P.length), O (j + 1) = goStep most ok F (O j) P[j]) ∧ P.foldl (goStep most ok F) [] = O P.length ∧ (∀ j, j ≤ P.length → ¬ most < 0 → most ≤ ((O j).length : Int) → O P.length = O j) ∧ ∀ j, j ≤ P.length → (O j).length ≤ P.length * n := by
 refine ⟨fun j => (P.take j).foldl (goStep most ok F) [], rfl, fun j h => ?_, by show _ = (P.take P.length).foldl _ []; rw [List.take_length], fun j hj hm hl => ?_, fun j hj => ?_⟩
 ·show (P.take (j + 1)).foldl _ [] = _
  rw [List.take_succ_eq_append_getElem h, List.foldl_append]
  rfl
 ·show (P.take P.length).foldl _ [] = (P.take j).foldl _ []
  rw [List.take_length]
  conv => lhs; rw [← List.take_append_drop j P]
  rw [List.foldl_append]
  exact fold_stuck most ok F hm _ _ hl
 ·refine Nat.le_trans (fold_len most ok F n hF (P.take j) []) ?_
  have h1 : (P.take j).length ≤ P.length := by rw [List.length_take]; omega
  have := Nat.mul_le_mul_right n h1
  simp only [List.length_nil]
  omega
theorem goOk_cases (ships list : List Int) (own used : Int) : (Go.bits .and .i64 own used ≠ 0 ∧ goOk ships list own used = false) ∨ (Go.bits .and .i64 own used = 0 ∧ list.length = 0 ∧ goOk ships list own used = true) ∨ ∃ m : Nat, list.length = m + 1 ∧ Go.bits .and .i64 own used = 0 ∧
  ((rd ships (list.length : Int) ≠ rd ships (m : Int) ∧ goOk ships list own used = true) ∨ (rd ships (list.length : Int) = rd ships (m : Int) ∧ own < rd list (m : Int) ∧ goOk ships list own used = false) ∨ (rd ships (list.length : Int) = rd ships (m : Int) ∧ ¬ own < rd list (m : Int) ∧ goOk ships list own used = true)) := by
 unfold goOk
 by_cases hb : Go.bits .and .i64 own used = 0
 ·rw [decide_eq_true hb, Bool.true_and]
  by_cases hl : 0 < list.length
  ·obtain ⟨m, hm⟩ : ∃ m, list.length = m + 1 := ⟨list.length - 1, by omega⟩
   have e : (list.length : Int) - 1 = (m : Int) := by omega
   refine .inr (.inr ⟨m, hm, hb, ?_⟩)
   rw [decide_eq_true hl, Bool.true_and, e]
   by_cases h1 : rd ships (list.length : Int) = rd ships (m : Int)
   ·rw [decide_eq_true h1, Bool.true_and]
    by_cases h2 : own < rd list (m : Int)
    ·exact .inr (.inl ⟨h1, h2, by rw [decide_eq_true h2]; rfl⟩)
    ·exact .inr (.inr ⟨h1, h2, by rw [decide_eq_false h2]; rfl⟩)
   ·exact .inl ⟨h1, by rw [decide_eq_false h1]; rfl⟩
  ·exact .inr (.inl ⟨hb, by omega, by rw [decide_eq_false hl]; rfl⟩)
 ·exact .inl ⟨hb, by rw [decide_eq_false hb]; rfl⟩
def agreeing (fls : List (List Int)) (T : List S45) : List (List Int) := fls.filter fun fl => agFrom fl 0 T
theorem agreeing_take (fls : List (List Int)) (T : List S45) {i : Nat} {fl : List Int} (h : fls[i]? = some fl) : agreeing (fls.take (i + 1)) T = if agFrom fl 0 T = true then agreeing (fls.take i) T ++ [fl] else agreeing (fls.take i) T := by
 obtain ⟨hi, he⟩ := List.getElem?_eq_some_iff.1 h
 unfold agreeing
 rw [List.take_succ_eq_append_getElem hi, List.filter_append, he]
 by_cases hb : agFrom fl 0 T = true
 ·rw [if_pos hb]; simp [hb]
 ·rw [if_neg hb]; simp [hb]
theorem fleets_in {W H : Nat} {ships : List Int} : ∀ (d : Nat) (list : List Int), InPl W H ships list → list.length + d = ships.length → ∀ fl ∈ fleetsFrom W H ships d list, InPl W H ships fl ∧ fl.length = ships.length
 | 0, list, hin, hd, fl, hfl => by
  have e : fl = list := by simpa [fleetsFrom] using hfl
  subst e
  exact ⟨hin, by omega⟩
 | d + 1, list, hin, hd, fl, hfl => by
  unfold fleetsFrom at hfl
  obtain ⟨own, ho, h2⟩ := List.mem_flatMap.1 hfl
  by_cases hg : goesV ships list own = true
  ·rw [if_pos hg] at h2
   exact fleets_in d (list ++ [own]) (hin.snoc ho) (by simp; omega) fl h2
  ·rw [if_neg hg] at h2
   cases h2
theorem inPl_num {W H : Nat} (hW : 1 ≤ W ∧ W ≤ 5) (hH : H ≤ 5) {ships : List Int} (hin : ∀ j : Nat, j < ships.length → inW (rd ships (j : Int)) 1 5 = true) {fl : List Int} (h : InPl W H ships fl) (hl : fl.length = ships.length) : ∀ x ∈ fl, ∃ m : Nat, x = (m : Int) ∧ m < 2 ^ (W * H) := fun x hx => by
 obtain ⟨j, hj, rfl⟩ := List.mem_iff_getElem.1 hx
 obtain ⟨n, hn, h1, _⟩ := inW_five (hin j (by omega))
 have := h j hj
 unfold placeOf at this
 rw [hn, Int.toNat_natCast] at this
 exact placesOf_bound hW.1 hW.2 hH h1 _ this
theorem cells_le {W H : Nat} (hW : W ≤ 5) (hH : H ≤ 5) : W * H ≤ 25 := Nat.mul_le_mul hW hH
theorem orAll_in {W H : Nat} (hW : 1 ≤ W ∧ W ≤ 5) (hH : H ≤ 5) {fl : List Int} (h : ∀ x ∈ fl, ∃ m : Nat, x = (m : Int) ∧ m < 2 ^ (W * H)) : ∃ V : Nat, orAll fl = (V : Int) ∧ V < 2 ^ (W * H) := orAll_nat (cells_le hW.2 hH) fl 0 (Nat.two_pow_pos _) h
theorem bit_add {V b c : Nat} (hV : V < 2 ^ b) (hb : b ≤ 25) (hc : c ≤ 64) : Go.bits .and .i64 (shr .i64 (V : Int) (c : Int)) 1 = if bitIn (V : Int) (c : Int) = true then 1 else 0 := by
 have h25 : 2 ^ b ≤ 33554432 := Nat.le_trans (Nat.pow_le_pow_right (by omega) hb) (by simp)
 unfold bitIn
 rw [bit_nat V c (Nat.lt_of_lt_of_le hV (Nat.le_trans h25 pow25_le)) hc]
 by_cases h : V.testBit c = true <;> simp [h]
structure ShI (w00 : World) (g3 ga gb go co : Nat) (A3 : Option Addr) (c3 : Nat) (T : List S45) (N : Nat) (done : List (List Int)) (W : World) : Prop where
 below : Below w00.heap.size w00 W
 b3 : W.heap[g3]? = some (.cells #[.slice A3 T.length c3] 39 (0, 0))
 bb : W.heap[gb]? = some (.cells #[.slice (some ⟨go, 0, none⟩) N co] 22 (0, 0))
 ba : W.heap[ga]? = some (.cells #[.int .i64 (done.length : Int)] 2 (0, 0))
 row : Kd.R (Kd.int .i64) 2 W w00.heap.size (fun k => k = go) (.slice (some ⟨go, 0, none⟩) N co) (sharesV N done)
def ShareI (w00 : World) (g3 ga gb go co : Nat) (A3 : Option Addr) (c3 : Nat) (T : List S45) (N : Nat) (fleets : List (List Int)) (i : Nat) (M : Nat → Prop) (W : World) : Prop := M = (fun k => k = ga ∨ k = go) ∧ ShI w00 g3 ga gb go co A3 c3 T N (agreeing (fleets.take i) T) W
theorem share_ok {W0 H0 : Nat} (hW : 1 ≤ W0 ∧ W0 ≤ 5) (hH : 1 ≤ H0 ∧ H0 ≤ 5) {ships : List Int} (hs3 : ships.length ≤ 3) (hin : ∀ j : Nat, j < ships.length → inW (rd ships (j : Int)) 1 5 = true) {w00 : World} {g3 ga gb go co : Nat} {A3 : Option Addr} {c3 : Nat} {T : List S45} (hTl : T.length ≤ 1048576) (hTs : SeaCells (T.map fun x => x.f0)) (hne : ShNe w00 g3 ga gb go) (hT : Kd.C k45 w00 A3 T.length T) (hTc : T.length ≤ c3) (hf : (fleetsFrom W0 H0 ships ships.length []).length ≤ 1000000) :
  EachOk 0 58 #[.pointer (some ⟨g3, 0, none⟩), .pointer (some ⟨ga, 0, none⟩), .pointer (some ⟨gb, 0, none⟩)] (fleetsFrom W0 H0 ships ships.length []) (ShareI w00 g3 ga gb go co A3 c3 T (W0 * H0) (fleetsFrom W0 H0 ships ships.length [])) where
 stay := fun i M W W' h hb => ⟨h.1, ⟨bp_ h.2.below hb, bb_ h.2.b3 hb, bb_ h.2.bb hb, bb_ h.2.ba hb, Kd.R_below h.2.row hb⟩⟩
 own := fun i M W h k hk => by
  rw [h.1] at hk
  rcases hk with rfl | rfl
  ·exact blk_lt h.2.ba
  ·exact Kd.R_lt h.2.row _ rfl
 call := fun i M W A c list h hl hcl hlc _ => by
  have hmem : list ∈ fleetsFrom W0 H0 ships ships.length [] := List.mem_of_getElem? hl
  obtain ⟨hpl, hlen⟩ := fleets_in ships.length [] InPl.nil (by simp) list hmem
  have hnum := inPl_num hW hH.2 hin hpl hlen
  have h25 : 2 ^ (W0 * H0) ≤ 33554432 := Nat.le_trans (Nat.pow_le_pow_right (by omega) (cells_le hW.2 hH.2)) (by simp)
  have hN : NumFleet list := fun x hx => by obtain ⟨m, e, hm⟩ := hnum x hx; exact ⟨m, e, Nat.lt_of_lt_of_le hm h25⟩
  obtain ⟨ka, hka⟩ := implAgrees_ev hN (by omega) T hTl hTs
  obtain ⟨kw, hkw⟩ := implWhole_ev list (by omega)
  obtain ⟨V, hV, hV2⟩ := orAll_in hW hH.2 hnum
  obtain ⟨hM, hS⟩ := h
  subst hM
  have hp : 0 < W0 * H0 := Nat.mul_pos (by omega) (by omega)
  have hc25 := cells_le hW.2 hH.2
  have hd : (agreeing ((fleetsFrom W0 H0 ships ships.length []).take i) T).length ≤ 1000000 := by
   unfold agreeing
   refine Nat.le_trans (List.length_filter_le _ _) ?_
   rw [List.length_take]
   omega
  refine (impl_Sea_shares_1.does w00 g3 ga gb go co A3 c3 T (W0 * H0) A list c (agreeing ((fleetsFrom W0 H0 ships ships.length []).take i) T) W ka kw hne hT hTc hlc ⟨hp, hc25⟩ hd (hka ka (Nat.le_refl _)) (hkw kw (Nat.le_refl _)) (fun j hj => by rw [hV]; exact bit_add hV2 hc25 (by omega)) ⟨hS.below, hS.b3, hS.bb, hS.ba, hS.row, hcl, Frame.refl _ _⟩).mono ?_
  rintro e w' ⟨rfl, hE⟩
  rw [← agreeing_take _ T hl] at hE
  exact ⟨rfl, _, ⟨rfl, ⟨hE.below, hE.b3, hE.bb, hE.ba, hE.row⟩⟩, hE.fr.x⟩
theorem chosen_step {V N : Nat} (hV : V < 2 ^ N) (hN : N ≤ 25) {j : Nat} (h : j < (chosenTo (bitIn (V : Int)) 25).length) : ∃ c : Nat, (chosenTo (bitIn (V : Int)) 25)[j] = (c : Int) ∧ c < N ∧ (c : Int) ∉ (chosenTo (bitIn (V : Int)) 25).take j := by
 obtain ⟨h0, h1, h2⟩ := (chosen_iff _ _ _).1 (List.getElem_mem h)
 obtain ⟨c, hc⟩ : ∃ c : Nat, (chosenTo (bitIn (V : Int)) 25)[j] = (c : Int) := ⟨((chosenTo (bitIn (V : Int)) 25)[j]).toNat, by omega⟩
 rw [hc] at h0 h1 h2
 refine ⟨c, hc, ?_, fun hm => ?_⟩
 ·refine Nat.lt_of_not_le (fun hle => ?_)
  rw [bitIn_high hV hN hle (by omega)] at h2
  cases h2
 ·obtain ⟨i, hi, he⟩ := List.mem_iff_getElem.1 hm
  rw [List.length_take] at hi
  rw [List.getElem_take, ← hc] at he
  have := asc_lt _ 0 (chosen_asc (bitIn (V : Int)) 25) i j (by omega) h (by omega)
  omega
structure FleetNum (N : Nat) (fl : List Int) : Prop where
 len : fl.length ≤ 1000
 all : ∃ V : Nat, orAll fl = (V : Int) ∧ V < 2 ^ N
theorem fleets_num {W H : Nat} (hW : 1 ≤ W ∧ W ≤ 5) (hH : 1 ≤ H ∧ H ≤ 5) {ships : List Int} (hs3 : ships.length ≤ 3) (hin : ∀ j : Nat, j < ships.length → inW (rd ships (j : Int)) 1 5 = true) (T : List S45) : ∀ fl ∈ agreeing (fleetsFrom W H ships ships.length []) T, FleetNum (W * H) fl := fun fl h => by
 obtain ⟨hpl, hlen⟩ := fleets_in ships.length [] InPl.nil (by simp) fl (List.mem_filter.1 h).1
 exact ⟨by omega, orAll_in hW hH.2 (inPl_num hW hH.2 hin hpl hlen)⟩
def shotsIn (T : List S45) : Bool := T.all fun x => decide (0 ≤ x.f0) && decide (x.f0 ≤ 24)
theorem shotsIn_sea {T : List S45} (h : shotsIn T = true) : SeaCells (T.map fun x => x.f0) := fun x hx => by
 obtain ⟨y, hy, rfl⟩ := List.mem_map.1 hx
 have := List.all_eq_true.1 h y hy
 simpa using this
def impl_Sea_shares.f (a0_0 a0_1 : Int) (l0_2 : List Int) (l1 : List S45) : Option (Int × List Int) := if seaV a0_0 a0_1 l0_2 = true ∧ shotsIn l1 = true ∧ l1.length ≤ 1048576 then some (((agreeing (fleetsOf a0_0 a0_1 l0_2) l1).length : Int), sharesV (a0_0.toNat * a0_1.toNat) (agreeing (fleetsOf a0_0 a0_1 l0_2) l1)) else none
theorem blk_types_ne {W : World} {g g' t t' : Nat} {cs cs' : Array Value} (h : W.heap[g]? = some (.cells cs t (0, 0))) (h' : W.heap[g']? = some (.cells cs' t' (0, 0))) (ht : t ≠ t') : g ≠ g' := fun e => by
 subst e
 rw [h] at h'
 injection h' with h'
 injection h' with _ h2
 exact ht h2
theorem row_ne {W : World} {g t base go n co : Nat} {cs : Array Value} {ok : Nat → Prop} {xs : List Int} (h : W.heap[g]? = some (.cells cs t (0, 0))) (ho : Kd.R (Kd.int .i64) 2 W base ok (.slice (some ⟨go, 0, none⟩) n co) xs) (ht : 2 ≠ t) : g ≠ go := fun e => Kd.R_ne ho h ht (by rw [e]; rfl)
theorem share_start {w W : World} {g3 ga gb go co N : Nat} {A3 : Option Addr} {c3 : Nat} {T : List S45} (h3 : W.heap[g3]? = some (.cells #[.slice A3 T.length c3] 39 (0, 0))) (hC : W.heap[gb]? = some (.cells #[.slice none 0 0] 22 (0, 0))) (hA : W.heap[ga]? = some (.cells #[.int .i64 0] 2 (0, 0)))
  (ho : Kd.R (Kd.int .i64) 2 W w.heap.size (fun _ => True) (.slice (some ⟨go, 0, none⟩) N co) (sharesV N [])) (hB : Below w.heap.size w W) (hne : ShNe w g3 ga gb go) (hz : w.heap.size ≤ gb) : ShI w g3 ga gb go co A3 c3 T N [] (W.setCell ⟨gb, 0, none⟩ (.slice (some ⟨go, 0, none⟩) N co)) where
 below := bs_ hB hz
 b3 := blk_far (p := ⟨gb, 0, none⟩) h3 (blk_types_ne h3 hC (by decide)) _
 bb := blk_put hC 0 _ rfl
 ba := blk_far (p := ⟨gb, 0, none⟩) hA (fun e => hne.ab e.symm) _
 row := Kd.R_mono (Kd.R_far (p := ⟨gb, 0, none⟩) (Kd.R_tight rfl ho) (fun k hk e => by subst e; injection hk with hk; exact hne.ob hk) _) (fun k hk => by injection hk)
theorem share_each (W0 H0 : Nat) (ships : List Int) (A2 : Option Addr) (c2 : Nat) (hw : 1 ≤ W0 ∧ W0 ≤ 5) (hh : 1 ≤ H0 ∧ H0 ≤ 5) (hsz : 1 ≤ ships.length ∧ ships.length ≤ 3) (hsin : ∀ j : Nat, j < ships.length → inW (rd ships (j : Int)) 1 5 = true) (hsc : ships.length ≤ c2)
  {w W : World} {g3 ga gb go co : Nat} {A3 : Option Addr} {c3 : Nat} {T : List S45} (hTl : T.length ≤ 1048576) (hTs : SeaCells (T.map fun x => x.f0)) (hne : ShNe w g3 ga gb go) (hT : Kd.C k45 w A3 T.length T) (hTc : T.length ≤ c3) (hR : Kd.C (Kd.int .i64) w A2 ships.length ships) {N : Nat} (hN : W0 * H0 = N) (hS : ShI w g3 ga gb go co A3 c3 T N [] W) :
  Calls Try.prog 37 #[.agg #[.int .i64 (W0 : Int), .int .i64 (H0 : Int), .slice A2 ships.length c2], .func (.func 58) #[] #[.pointer (some ⟨g3, 0, none⟩), .pointer (some ⟨ga, 0, none⟩), .pointer (some ⟨gb, 0, none⟩)]] W fun e w' => e = .returned (.tuple #[]) ∧ ShI w g3 ga gb go co A3 c3 T N (agreeing (fleetsFrom W0 H0 ships ships.length []) T) w' := by
 subst hN
 have eg112 : ∀ args w, (callFunc 58 args).run Try.prog w = .ok (.enter 58 args) w := enters_of Try.func58 (by kernel_rfl) rfl
 have hpl : ∀ j, (placeOf W0 H0 ships j).length ≤ 100 := fun j => placeOf_len hw.2 hh.2 ships j
 have hfl : (fleetsFrom W0 H0 ships ships.length []).length ≤ 1000000 := by
  refine Nat.le_trans (fleets_len W0 H0 ships hpl ships.length []) ?_
  exact Nat.le_trans (Nat.pow_le_pow_right (by omega) hsz.2) (by simp)
 have hclr : Clear (fun k => k = ga ∨ k = go) W A2 ships := by
  refine ⟨Kd.C_below hR hS.below, fun h0 a ha => ?_⟩
  subst ha
  obtain ⟨b, e, hcb⟩ := Kd.at_int hR 0 (by omega) (by omega)
  injection e with e
  subst e
  have h1 := World.block_lt_of_cell? _ _ hcb
  rw [add_block] at h1
  exact ⟨Nat.lt_of_lt_of_le h1 hS.below.size, fun h => by have := hne.za; have := hne.zo; rcases h with h | h <;> omega⟩
 refine (impl_Sea_eachFleet.does W0 H0 ships A2 c2 58 #[.pointer (some ⟨g3, 0, none⟩), .pointer (some ⟨ga, 0, none⟩), .pointer (some ⟨gb, 0, none⟩)] (ShareI w g3 ga gb go co A3 c3 T (W0 * H0) (fleetsFrom W0 H0 ships ships.length [])) 0 eg112 (share_ok hw hh hsz.2 hsin hTl hTs hne hT hTc hfl) hw hh hsz hsin hsc hpl W (Nat.zero_le _) (fun k => k = ga ∨ k = go) ⟨rfl, hS⟩ hclr).mono ?_
 rintro e w' ⟨rfl, M', hi, hf⟩
 have hi2 := hi.2
 rw [List.take_length] at hi2
 exact ⟨rfl, hi2⟩
def impl_Sea_shares.T1 : Bool × List (List Nat × List Nat) := (true, [([], []), ([0], [0]), ([1, 1], [1]), ([], []), ([], []), ([3, 1, 3, 4], [3]), ([4, 2, 5, 0, 1, 2, 3, 4, 5], [2, 4])])
def impl_Sea_shares.B1 : List Nat := [0, 1, 3, 0, 0, 27, 63]
theorem impl_Sea_shares.tab1 : rtab .any (opsOf Try.f39 1) = impl_Sea_shares.T1 := by kernel_rfl
theorem impl_Sea_shares.bits1 : waitsOk impl_Sea_shares.T1.2 impl_Sea_shares.B1 = true := by kernel_rfl
theorem wrap_nat_ {N : Nat} (h : N ≤ 25) : wrap64 (N : Int) = (N : Int) := by unfold wrap64; omega
set_option maxHeartbeats 16000000 in
set_option maxRecDepth 100000 in
theorem impl_Sea_shares.calls (a0_0 a0_1 : Int) (A2 : Option Addr) (c2 : Nat) (ships : List Int) (A3 : Option Addr) (c3 : Nat) (T : List S45) (r1 : Int) (r2 : List Int) (w : World) (hr0_2 : Kd.C (Kd.int .i64) w A2 ships.length ships) (hc0_2 : ships.length ≤ c2) (hr1 : Kd.C k45 w A3 T.length T) (hc1 : T.length ≤ c3) (h : impl_Sea_shares.f a0_0 a0_1 ships T = some (r1, r2)) :
  Calls Try.prog 39 #[.agg #[.int .i64 a0_0, .int .i64 a0_1, .slice A2 ships.length c2], .slice A3 T.length c3] w fun e w' => ∃ v1_ : Value, e = .returned (.tuple #[.int .i64 r1, v1_]) ∧ Kd.R (Kd.int .i64) 2 w' w.heap.size (fun _ => True) v1_ r2 ∧ Below w.heap.size w w' := by
 unfold impl_Sea_shares.f at h
 split at h
 case isFalse => cases h
 rename_i hs
 simp only [Option.some.injEq, Prod.mk.injEq] at h
 obtain ⟨hr1_, hr2_⟩ := h
 obtain ⟨hs, hsi, hTl⟩ := hs
 obtain ⟨⟨W0, rfl, hw1, hw5⟩, ⟨H0, rfl, hh1, hh5⟩, hs1, hs3⟩ := seaV_nat hs
 have HW := Aside0.mk (And.intro hw1 hw5)
 have HH := Aside0.mk (And.intro hh1 hh5)
 have HSz := Aside0.mk (And.intro hs1 hs3)
 have HSI := Aside0.mk (sea_ships hs)
 have HTl := Aside0.mk hTl
 have HTs := Aside0.mk (shotsIn_sea hsi)
 have HT0 := Aside0.mk hr1
 have HTc := Aside0.mk hc1
 have HSh := Aside0.mk hr0_2
 have HC2 := Aside0.mk hc0_2
 unfold fleetsOf at hr1_ hr2_
 simp only [Int.toNat_natCast] at hr1_ hr2_
 obtain ⟨D, hD⟩ : ∃ D, agreeing (fleetsFrom W0 H0 ships ships.length []) T = D := ⟨_, rfl⟩
 rw [hD] at hr1_ hr2_
 have HDn := Aside0.mk hD
 obtain ⟨N, hN⟩ : ∃ N, W0 * H0 = N := ⟨_, rfl⟩
 rw [hN] at hr2_
 have HNN0 := Aside0.mk hN
 have hN25 : N ≤ 25 := by rw [← hN]; exact cells_le hw5 hh5
 have HNp := Aside0.mk (show 0 < N by rw [← hN]; exact Nat.mul_pos (by omega) (by omega))
 have HN0 := Aside0.mk (show (0 : Int) ≤ (N : Int) by omega)
 have HN8 := Aside0.mk (show ((N : Int)).toNat * 8 ≤ 281474976710656 by rw [Int.toNat_natCast]; omega)
 have HCel := Aside0.mk (show impl_Sea_cells.f (W0 : Int) (H0 : Int) ships = some (N : Int) by
  unfold impl_Sea_cells.f
  rw [show (W0 : Int) * (H0 : Int) = (N : Int) by rw [← hN, Int.natCast_mul], wrap_nat_ hN25])
 subst hr1_ hr2_
 have hu28 := Try.underlying28
 clear hr0_2 hc0_2 hr1 hc1 hs hsi hTl hw1 hw5 hh1 hh5 hs1 hs3 hD hN hN25
 go_enter Try.func39, Try.ntmps39
 go_wp2_with (first | ((with_reducible refine gate_dst (N := 2) rfl ?_); refine box_event ?hg (N := 2) ?hd (cs := #[.int .i64 (W0 : Int), .int .i64 (H0 : Int), .slice A2 ships.length c2]) (t := 28) ?hr ?_; (case hd => rfl); (case hg => rfl); (case hr => first | (go_simp; done) | (go_simp; rfl)); intro g2 hg2 w1 hbox hb; have H2 := Aside0.mk hbox; have HB := Aside0.mk hb; clear hbox hb hg2) | ((with_reducible refine gate_dst (N := 3) rfl ?_); refine box_event ?hg (N := 3) ?hd (cs := #[.slice A3 T.length c3]) (t := 39) ?hr ?_; (case hd => rfl); (case hg => rfl); (case hr => first | (go_simp; done) | (go_simp; rfl)); intro g3 hg3 w2 hbox hb; have H3 := Aside0.mk hbox; have n1_ := Aside0.mk (bb_ H2.out hb); have n2_ := Aside0.mk (bp_ HB.out hb); clear H2 HB hbox hb hg3; have H2 := n1_; have HB := n2_; clear n1_ n2_))
 have u2_ := Aside0.mk (bkd_ H2.out)
 have u3_ := Aside0.mk (bkd_ H3.out)
 have uB_ := Aside0.mk (bd1_ HB.out)
 clear H2 H3 HB
 have H2 := u2_
 have H3 := u3_
 have HB := uB_
 clear u2_ u3_ uB_
 refine start_ (n := 7) (S := fun w' => w'.cell? ⟨g2, 0, none⟩ = some (.int .i64 (W0 : Int)) ∧ w'.cell? ⟨g2, 1, none⟩ = some (.int .i64 (H0 : Int)) ∧ w'.cell? ⟨g2, 2, none⟩ = some (.slice A2 ships.length c2)) (ds := [6]) #[false, false, false, false, false, false, false] (by kernel_rfl) rfl rfl ⟨(bc_ H2.out 0).trans rfl, (bc_ H2.out 1).trans rfl, (bc_ H2.out 2).trans rfl⟩ (fun hHeld => ?_)
 refine with_tabW impl_Sea_shares.tab1 impl_Sea_shares.bits1 (fun HT_ HW_ => ?_)
 generalize hq_ : w2.drew = wd_ at H2 H3 HB hHeld ⊢
 clear hq_
 refine take_ (i := 0) (N := some 8) (v := ?_) (a' := ?_) (flg_ 7 1) rfl rfl (take_ofW HT_.out HW_.out (by kernel_rfl)) (fun _ _ _ h => h) (Or.inl ⟨by rfl, ?_⟩) hHeld ?_ ?_
 rotate_left; (· (rintro w' ⟨s0_, s1_, s2_⟩; go_simp; with_reducible rfl)); rotate_left; (· (simp only [Act.put, sz_, s0_, s1_, i64_w, i32_w]; rfl))
 all_goals first
  | (refine three_ (l := #[true, false, false, false, false, false, false]) (i := 1) (j := 3) (k := 4) (Ni := some 9) (Nj := some 6) (Nk := some 7) #[true, true, false, false, false, false, false] #[true, false, false, true, false, false, false] #[true, false, false, false, true, false, false] rfl rfl rfl rfl rfl rfl (three_of HT_.out (by kernel_rfl)) (by decide) (by decide) (by decide) (fun K hK => ?_) (fun K hK => ?_) (fun K hK => ?_))
 all_goals first
  | (refine goes_ (N := some 9) Try.func54 (by kernel_rfl) rfl #[.agg #[.int .i64 (W0 : Int), .int .i64 (H0 : Int), .slice A2 ships.length c2]] (by rfl) rfl rfl (by (try simp only [List.map_toArray, List.map_cons, List.map_nil]); first | done | rfl) ?_; refine (impl_Sea_cells.calls (W0 : Int) (H0 : Int) A2 c2 ships (N : Int) wd_ (Kd.C_below HSh.out HB.out) HC2.out HCel.out).mono ?_; rintro e wd_ ⟨rfl, hb⟩; refine ⟨_, rfl, ?_⟩; (try (have u_ := Aside0.mk (bb_ H2.out hb); clear H2; have H2 := u_; clear u_)); (try (have u_ := Aside0.mk (bb_ H3.out hb); clear H3; have H3 := u_; clear u_)); (try (have u_ := Aside0.mk (bp_ HB.out hb); clear HB; have HB := u_; clear u_)); (try (have u_ := Aside0.mk (Kd.R_below HO.out hb); clear HO; have HO := u_; clear u_)); (try (have u_ := Aside0.mk (bb_ HA.out hb); clear HA; have HA := u_; clear u_)); (try (have u_ := Aside0.mk (bb_ HC.out hb); clear HC; have HC := u_; clear u_)); clear hb; refine hK.out _ _ ⟨(bc_ H2.out 0).trans rfl, (bc_ H2.out 1).trans rfl, (bc_ H2.out 2).trans rfl⟩ (fun hHeld => ?_); clear hK K; refine norm_ (a' := ?_) ?_ ?_; rotate_left; (· (show Act.put _ (some 9) _ = _; simp only [Act.put, sz_, s0_, s1_, i64_w, i32_w]; rfl)))
  | (refine value_ (N := some 6) (w1 := wd_.alloc (.cells #[.int .i64 0] 2 (0, 0))) (v := .pointer (some ⟨wd_.heap.size, 0, none⟩)) (by rfl) rfl ?_ ?_; (· (go_simp; (try rfl))); have hb := ba_ (Below.refl wd_.heap.size wd_) (.cells #[.int .i64 0] 2 (0, 0)); have hnw := blk_new wd_ (.cells #[.int .i64 0] 2 (0, 0)); have hz := bz_ HB.out; (try have HNN := Aside0.mk (show wd_.heap.size ≠ go by have := Kd.R_lt HO.out go rfl; omega)); (try (have u_ := Aside0.mk (bb_ H2.out hb); clear H2; have H2 := u_; clear u_)); (try (have u_ := Aside0.mk (bb_ H3.out hb); clear H3; have H3 := u_; clear u_)); (try (have u_ := Aside0.mk (bp_ HB.out hb); clear HB; have HB := u_; clear u_)); (try (have u_ := Aside0.mk (Kd.R_below HO.out hb); clear HO; have HO := u_; clear u_)); (try (have u_ := Aside0.mk (bb_ HA.out hb); clear HA; have HA := u_; clear u_)); (try (have u_ := Aside0.mk (bb_ HC.out hb); clear HC; have HC := u_; clear u_)); clear hb; generalize wd_.alloc (.cells #[.int .i64 0] 2 (0, 0)) = wx_ at *; generalize wd_.heap.size = ga at *; have HA := Aside0.mk hnw; have HZA := Aside0.mk hz; clear hnw hz; refine hK.out _ _ ⟨(bc_ H2.out 0).trans rfl, (bc_ H2.out 1).trans rfl, (bc_ H2.out 2).trans rfl⟩ (fun hHeld => ?_); clear hK K; refine norm_ (a' := ?_) ?_ ?_; rotate_left; (· (show Act.put _ (some 6) _ = _; simp only [Act.put, sz_, s0_, s1_, i64_w, i32_w]; rfl)); (try clear wd_); generalize wx_ = wd_ at *)
  | (refine value_ (N := some 7) (w1 := wd_.alloc (.cells #[.slice none 0 0] 22 (0, 0))) (v := .pointer (some ⟨wd_.heap.size, 0, none⟩)) (by rfl) rfl ?_ ?_; (· (go_simp; (try rfl))); have hb := ba_ (Below.refl wd_.heap.size wd_) (.cells #[.slice none 0 0] 22 (0, 0)); have hnw := blk_new wd_ (.cells #[.slice none 0 0] 22 (0, 0)); have hz := bz_ HB.out; (try (have u_ := Aside0.mk (bb_ H2.out hb); clear H2; have H2 := u_; clear u_)); (try (have u_ := Aside0.mk (bb_ H3.out hb); clear H3; have H3 := u_; clear u_)); (try (have u_ := Aside0.mk (bp_ HB.out hb); clear HB; have HB := u_; clear u_)); (try (have u_ := Aside0.mk (Kd.R_below HO.out hb); clear HO; have HO := u_; clear u_)); (try (have u_ := Aside0.mk (bb_ HA.out hb); clear HA; have HA := u_; clear u_)); (try (have u_ := Aside0.mk (bb_ HC.out hb); clear HC; have HC := u_; clear u_)); clear hb; generalize wd_.alloc (.cells #[.slice none 0 0] 22 (0, 0)) = wx_ at *; generalize wd_.heap.size = gb at *; have HC := Aside0.mk hnw; have HZB := Aside0.mk hz; clear hnw hz; refine hK.out _ _ ⟨(bc_ H2.out 0).trans rfl, (bc_ H2.out 1).trans rfl, (bc_ H2.out 2).trans rfl⟩ (fun hHeld => ?_); clear hK K; refine norm_ (a' := ?_) ?_ ?_; rotate_left; (· (show Act.put _ (some 7) _ = _; simp only [Act.put, sz_, s0_, s1_, i64_w, i32_w]; rfl)); (try clear wd_); generalize wx_ = wd_ at *)
 all_goals first
  | (refine three_ (l := #[true, true, false, false, false, false, false]) (i := 2) (j := 3) (k := 4) (Ni := some 10) (Nj := some 6) (Nk := some 7) #[true, true, true, false, false, false, false] #[true, true, false, true, false, false, false] #[true, true, false, false, true, false, false] rfl rfl rfl rfl rfl rfl (three_of HT_.out (by kernel_rfl)) (by decide) (by decide) (by decide) (fun K hK => ?_) (fun K hK => ?_) (fun K hK => ?_))
  | (refine two_ (l := #[true, false, false, true, false, false, false]) (i := 1) (j := 4) (Ni := some 9) (Nj := some 7) #[true, true, false, true, false, false, false] #[true, false, false, true, true, false, false] rfl rfl rfl rfl (two_of HT_.out (by kernel_rfl)) (by decide) (by decide) (fun K hK => ?_) (fun K hK => ?_))
  | (refine two_ (l := #[true, false, false, false, true, false, false]) (i := 1) (j := 3) (Ni := some 9) (Nj := some 6) #[true, true, false, false, true, false, false] #[true, false, false, true, true, false, false] rfl rfl rfl rfl (two_of HT_.out (by kernel_rfl)) (by decide) (by decide) (fun K hK => ?_) (fun K hK => ?_))
 all_goals first
  | (refine goes_ (N := some 9) Try.func54 (by kernel_rfl) rfl #[.agg #[.int .i64 (W0 : Int), .int .i64 (H0 : Int), .slice A2 ships.length c2]] (by rfl) rfl rfl (by (try simp only [List.map_toArray, List.map_cons, List.map_nil]); first | done | rfl) ?_; refine (impl_Sea_cells.calls (W0 : Int) (H0 : Int) A2 c2 ships (N : Int) wd_ (Kd.C_below HSh.out HB.out) HC2.out HCel.out).mono ?_; rintro e wd_ ⟨rfl, hb⟩; refine ⟨_, rfl, ?_⟩; (try (have u_ := Aside0.mk (bb_ H2.out hb); clear H2; have H2 := u_; clear u_)); (try (have u_ := Aside0.mk (bb_ H3.out hb); clear H3; have H3 := u_; clear u_)); (try (have u_ := Aside0.mk (bp_ HB.out hb); clear HB; have HB := u_; clear u_)); (try (have u_ := Aside0.mk (Kd.R_below HO.out hb); clear HO; have HO := u_; clear u_)); (try (have u_ := Aside0.mk (bb_ HA.out hb); clear HA; have HA := u_; clear u_)); (try (have u_ := Aside0.mk (bb_ HC.out hb); clear HC; have HC := u_; clear u_)); clear hb; refine hK.out _ _ ⟨(bc_ H2.out 0).trans rfl, (bc_ H2.out 1).trans rfl, (bc_ H2.out 2).trans rfl⟩ (fun hHeld => ?_); clear hK K; refine norm_ (a' := ?_) ?_ ?_; rotate_left; (· (show Act.put _ (some 9) _ = _; simp only [Act.put, sz_, s0_, s1_, i64_w, i32_w]; rfl)))
  | (refine Kd.R_make_step (Kd.int .i64) _ 2 (by rfl) (N := 10) rfl 22 _ _ rfl (N : Int) rfl rfl Try.underlying22 (.int .i64 0) 8 info2 rfl (by decide) (by omega) 0 (ok := fun _ => True) (okp := fun _ => True) rfl (fun _ hk => hk) trivial HN0.out HN8.out (Below.refl _ _) (Nat.le_refl _) ?_; intro v10 wd_ ho hb hg_ hnew_; clear hg_ hnew_; rw [Int.toNat_natCast, ← sharesV_nil] at ho; obtain ⟨go, co, e10, hgo_, _, _⟩ := Kd.R_form ho (by rw [sharesV_len]; exact HNp.out); rw [sharesV_len] at e10; subst e10; (try have HNN := Aside0.mk (show ga ≠ go by have := blk_lt HA.out; omega)); have HZO := Aside0.mk (show w.heap.size ≤ go by have := bz_ HB.out; omega); clear hgo_; have uO0_ := Aside0.mk (Kd.R_lower ho (bz_ HB.out)); clear ho; (try (have u_ := Aside0.mk (bb_ H2.out hb); clear H2; have H2 := u_; clear u_)); (try (have u_ := Aside0.mk (bb_ H3.out hb); clear H3; have H3 := u_; clear u_)); (try (have u_ := Aside0.mk (bp_ HB.out hb); clear HB; have HB := u_; clear u_)); (try (have u_ := Aside0.mk (Kd.R_below HO.out hb); clear HO; have HO := u_; clear u_)); (try (have u_ := Aside0.mk (bb_ HA.out hb); clear HA; have HA := u_; clear u_)); (try (have u_ := Aside0.mk (bb_ HC.out hb); clear HC; have HC := u_; clear u_)); clear hb; have HO := uO0_; clear uO0_; refine hK.out _ _ ⟨(bc_ H2.out 0).trans rfl, (bc_ H2.out 1).trans rfl, (bc_ H2.out 2).trans rfl⟩ (fun hHeld => ?_); clear hK K; refine norm_ (a' := ?_) ?_ ?_; rotate_left; (· (show Act.put _ (some 10) _ = _; simp only [Act.put, sz_, s0_, s1_, i64_w, i32_w]; rfl)))
  | (refine value_ (N := some 6) (w1 := wd_.alloc (.cells #[.int .i64 0] 2 (0, 0))) (v := .pointer (some ⟨wd_.heap.size, 0, none⟩)) (by rfl) rfl ?_ ?_; (· (go_simp; (try rfl))); have hb := ba_ (Below.refl wd_.heap.size wd_) (.cells #[.int .i64 0] 2 (0, 0)); have hnw := blk_new wd_ (.cells #[.int .i64 0] 2 (0, 0)); have hz := bz_ HB.out; (try have HNN := Aside0.mk (show wd_.heap.size ≠ go by have := Kd.R_lt HO.out go rfl; omega)); (try (have u_ := Aside0.mk (bb_ H2.out hb); clear H2; have H2 := u_; clear u_)); (try (have u_ := Aside0.mk (bb_ H3.out hb); clear H3; have H3 := u_; clear u_)); (try (have u_ := Aside0.mk (bp_ HB.out hb); clear HB; have HB := u_; clear u_)); (try (have u_ := Aside0.mk (Kd.R_below HO.out hb); clear HO; have HO := u_; clear u_)); (try (have u_ := Aside0.mk (bb_ HA.out hb); clear HA; have HA := u_; clear u_)); (try (have u_ := Aside0.mk (bb_ HC.out hb); clear HC; have HC := u_; clear u_)); clear hb; generalize wd_.alloc (.cells #[.int .i64 0] 2 (0, 0)) = wx_ at *; generalize wd_.heap.size = ga at *; have HA := Aside0.mk hnw; have HZA := Aside0.mk hz; clear hnw hz; refine hK.out _ _ ⟨(bc_ H2.out 0).trans rfl, (bc_ H2.out 1).trans rfl, (bc_ H2.out 2).trans rfl⟩ (fun hHeld => ?_); clear hK K; refine norm_ (a' := ?_) ?_ ?_; rotate_left; (· (show Act.put _ (some 6) _ = _; simp only [Act.put, sz_, s0_, s1_, i64_w, i32_w]; rfl)); (try clear wd_); generalize wx_ = wd_ at *)
  | (refine value_ (N := some 7) (w1 := wd_.alloc (.cells #[.slice none 0 0] 22 (0, 0))) (v := .pointer (some ⟨wd_.heap.size, 0, none⟩)) (by rfl) rfl ?_ ?_; (· (go_simp; (try rfl))); have hb := ba_ (Below.refl wd_.heap.size wd_) (.cells #[.slice none 0 0] 22 (0, 0)); have hnw := blk_new wd_ (.cells #[.slice none 0 0] 22 (0, 0)); have hz := bz_ HB.out; (try (have u_ := Aside0.mk (bb_ H2.out hb); clear H2; have H2 := u_; clear u_)); (try (have u_ := Aside0.mk (bb_ H3.out hb); clear H3; have H3 := u_; clear u_)); (try (have u_ := Aside0.mk (bp_ HB.out hb); clear HB; have HB := u_; clear u_)); (try (have u_ := Aside0.mk (Kd.R_below HO.out hb); clear HO; have HO := u_; clear u_)); (try (have u_ := Aside0.mk (bb_ HA.out hb); clear HA; have HA := u_; clear u_)); (try (have u_ := Aside0.mk (bb_ HC.out hb); clear HC; have HC := u_; clear u_)); clear hb; generalize wd_.alloc (.cells #[.slice none 0 0] 22 (0, 0)) = wx_ at *; generalize wd_.heap.size = gb at *; have HC := Aside0.mk hnw; have HZB := Aside0.mk hz; clear hnw hz; refine hK.out _ _ ⟨(bc_ H2.out 0).trans rfl, (bc_ H2.out 1).trans rfl, (bc_ H2.out 2).trans rfl⟩ (fun hHeld => ?_); clear hK K; refine norm_ (a' := ?_) ?_ ?_; rotate_left; (· (show Act.put _ (some 7) _ = _; simp only [Act.put, sz_, s0_, s1_, i64_w, i32_w]; rfl)); (try clear wd_); generalize wx_ = wd_ at *)
 all_goals first
  | (refine two_ (l := #[true, true, true, false, false, false, false]) (i := 3) (j := 4) (Ni := some 6) (Nj := some 7) #[true, true, true, true, false, false, false] #[true, true, true, false, true, false, false] rfl rfl rfl rfl (two_of HT_.out (by kernel_rfl)) (by decide) (by decide) (fun K hK => ?_) (fun K hK => ?_))
  | (refine two_ (l := #[true, true, false, true, false, false, false]) (i := 2) (j := 4) (Ni := some 10) (Nj := some 7) #[true, true, true, true, false, false, false] #[true, true, false, true, true, false, false] rfl rfl rfl rfl (two_of HT_.out (by kernel_rfl)) (by decide) (by decide) (fun K hK => ?_) (fun K hK => ?_))
  | (refine two_ (l := #[true, true, false, false, true, false, false]) (i := 2) (j := 3) (Ni := some 10) (Nj := some 6) #[true, true, true, false, true, false, false] #[true, true, false, true, true, false, false] rfl rfl rfl rfl (two_of HT_.out (by kernel_rfl)) (by decide) (by decide) (fun K hK => ?_) (fun K hK => ?_))
  | (refine one_ (l := #[true, false, false, true, true, false, false]) (i := 1) (N := some 9) #[true, true, false, true, true, false, false] rfl rfl (one_of HT_.out (by kernel_rfl)) (by decide) (fun K hK => ?_))
 all_goals first
  | (refine goes_ (N := some 9) Try.func54 (by kernel_rfl) rfl #[.agg #[.int .i64 (W0 : Int), .int .i64 (H0 : Int), .slice A2 ships.length c2]] (by rfl) rfl rfl (by (try simp only [List.map_toArray, List.map_cons, List.map_nil]); first | done | rfl) ?_; refine (impl_Sea_cells.calls (W0 : Int) (H0 : Int) A2 c2 ships (N : Int) wd_ (Kd.C_below HSh.out HB.out) HC2.out HCel.out).mono ?_; rintro e wd_ ⟨rfl, hb⟩; refine ⟨_, rfl, ?_⟩; (try (have u_ := Aside0.mk (bb_ H2.out hb); clear H2; have H2 := u_; clear u_)); (try (have u_ := Aside0.mk (bb_ H3.out hb); clear H3; have H3 := u_; clear u_)); (try (have u_ := Aside0.mk (bp_ HB.out hb); clear HB; have HB := u_; clear u_)); (try (have u_ := Aside0.mk (Kd.R_below HO.out hb); clear HO; have HO := u_; clear u_)); (try (have u_ := Aside0.mk (bb_ HA.out hb); clear HA; have HA := u_; clear u_)); (try (have u_ := Aside0.mk (bb_ HC.out hb); clear HC; have HC := u_; clear u_)); clear hb; refine hK.out _ _ ⟨(bc_ H2.out 0).trans rfl, (bc_ H2.out 1).trans rfl, (bc_ H2.out 2).trans rfl⟩ (fun hHeld => ?_); clear hK K; refine norm_ (a' := ?_) ?_ ?_; rotate_left; (· (show Act.put _ (some 9) _ = _; simp only [Act.put, sz_, s0_, s1_, i64_w, i32_w]; rfl)))
  | (refine Kd.R_make_step (Kd.int .i64) _ 2 (by rfl) (N := 10) rfl 22 _ _ rfl (N : Int) rfl rfl Try.underlying22 (.int .i64 0) 8 info2 rfl (by decide) (by omega) 0 (ok := fun _ => True) (okp := fun _ => True) rfl (fun _ hk => hk) trivial HN0.out HN8.out (Below.refl _ _) (Nat.le_refl _) ?_; intro v10 wd_ ho hb hg_ hnew_; clear hg_ hnew_; rw [Int.toNat_natCast, ← sharesV_nil] at ho; obtain ⟨go, co, e10, hgo_, _, _⟩ := Kd.R_form ho (by rw [sharesV_len]; exact HNp.out); rw [sharesV_len] at e10; subst e10; (try have HNN := Aside0.mk (show ga ≠ go by have := blk_lt HA.out; omega)); have HZO := Aside0.mk (show w.heap.size ≤ go by have := bz_ HB.out; omega); clear hgo_; have uO0_ := Aside0.mk (Kd.R_lower ho (bz_ HB.out)); clear ho; (try (have u_ := Aside0.mk (bb_ H2.out hb); clear H2; have H2 := u_; clear u_)); (try (have u_ := Aside0.mk (bb_ H3.out hb); clear H3; have H3 := u_; clear u_)); (try (have u_ := Aside0.mk (bp_ HB.out hb); clear HB; have HB := u_; clear u_)); (try (have u_ := Aside0.mk (Kd.R_below HO.out hb); clear HO; have HO := u_; clear u_)); (try (have u_ := Aside0.mk (bb_ HA.out hb); clear HA; have HA := u_; clear u_)); (try (have u_ := Aside0.mk (bb_ HC.out hb); clear HC; have HC := u_; clear u_)); clear hb; have HO := uO0_; clear uO0_; refine hK.out _ _ ⟨(bc_ H2.out 0).trans rfl, (bc_ H2.out 1).trans rfl, (bc_ H2.out 2).trans rfl⟩ (fun hHeld => ?_); clear hK K; refine norm_ (a' := ?_) ?_ ?_; rotate_left; (· (show Act.put _ (some 10) _ = _; simp only [Act.put, sz_, s0_, s1_, i64_w, i32_w]; rfl)))
  | (refine value_ (N := some 6) (w1 := wd_.alloc (.cells #[.int .i64 0] 2 (0, 0))) (v := .pointer (some ⟨wd_.heap.size, 0, none⟩)) (by rfl) rfl ?_ ?_; (· (go_simp; (try rfl))); have hb := ba_ (Below.refl wd_.heap.size wd_) (.cells #[.int .i64 0] 2 (0, 0)); have hnw := blk_new wd_ (.cells #[.int .i64 0] 2 (0, 0)); have hz := bz_ HB.out; (try have HNN := Aside0.mk (show wd_.heap.size ≠ go by have := Kd.R_lt HO.out go rfl; omega)); (try (have u_ := Aside0.mk (bb_ H2.out hb); clear H2; have H2 := u_; clear u_)); (try (have u_ := Aside0.mk (bb_ H3.out hb); clear H3; have H3 := u_; clear u_)); (try (have u_ := Aside0.mk (bp_ HB.out hb); clear HB; have HB := u_; clear u_)); (try (have u_ := Aside0.mk (Kd.R_below HO.out hb); clear HO; have HO := u_; clear u_)); (try (have u_ := Aside0.mk (bb_ HA.out hb); clear HA; have HA := u_; clear u_)); (try (have u_ := Aside0.mk (bb_ HC.out hb); clear HC; have HC := u_; clear u_)); clear hb; generalize wd_.alloc (.cells #[.int .i64 0] 2 (0, 0)) = wx_ at *; generalize wd_.heap.size = ga at *; have HA := Aside0.mk hnw; have HZA := Aside0.mk hz; clear hnw hz; refine hK.out _ _ ⟨(bc_ H2.out 0).trans rfl, (bc_ H2.out 1).trans rfl, (bc_ H2.out 2).trans rfl⟩ (fun hHeld => ?_); clear hK K; refine norm_ (a' := ?_) ?_ ?_; rotate_left; (· (show Act.put _ (some 6) _ = _; simp only [Act.put, sz_, s0_, s1_, i64_w, i32_w]; rfl)); (try clear wd_); generalize wx_ = wd_ at *)
  | (refine value_ (N := some 7) (w1 := wd_.alloc (.cells #[.slice none 0 0] 22 (0, 0))) (v := .pointer (some ⟨wd_.heap.size, 0, none⟩)) (by rfl) rfl ?_ ?_; (· (go_simp; (try rfl))); have hb := ba_ (Below.refl wd_.heap.size wd_) (.cells #[.slice none 0 0] 22 (0, 0)); have hnw := blk_new wd_ (.cells #[.slice none 0 0] 22 (0, 0)); have hz := bz_ HB.out; (try (have u_ := Aside0.mk (bb_ H2.out hb); clear H2; have H2 := u_; clear u_)); (try (have u_ := Aside0.mk (bb_ H3.out hb); clear H3; have H3 := u_; clear u_)); (try (have u_ := Aside0.mk (bp_ HB.out hb); clear HB; have HB := u_; clear u_)); (try (have u_ := Aside0.mk (Kd.R_below HO.out hb); clear HO; have HO := u_; clear u_)); (try (have u_ := Aside0.mk (bb_ HA.out hb); clear HA; have HA := u_; clear u_)); (try (have u_ := Aside0.mk (bb_ HC.out hb); clear HC; have HC := u_; clear u_)); clear hb; generalize wd_.alloc (.cells #[.slice none 0 0] 22 (0, 0)) = wx_ at *; generalize wd_.heap.size = gb at *; have HC := Aside0.mk hnw; have HZB := Aside0.mk hz; clear hnw hz; refine hK.out _ _ ⟨(bc_ H2.out 0).trans rfl, (bc_ H2.out 1).trans rfl, (bc_ H2.out 2).trans rfl⟩ (fun hHeld => ?_); clear hK K; refine norm_ (a' := ?_) ?_ ?_; rotate_left; (· (show Act.put _ (some 7) _ = _; simp only [Act.put, sz_, s0_, s1_, i64_w, i32_w]; rfl)); (try clear wd_); generalize wx_ = wd_ at *)
 all_goals first
  | (refine one_ (l := #[true, true, true, true, false, false, false]) (i := 4) (N := some 7) #[true, true, true, true, true, false, false] rfl rfl (one_of HT_.out (by kernel_rfl)) (by decide) (fun K hK => ?_))
  | (refine one_ (l := #[true, true, true, false, true, false, false]) (i := 3) (N := some 6) #[true, true, true, true, true, false, false] rfl rfl (one_of HT_.out (by kernel_rfl)) (by decide) (fun K hK => ?_))
  | (refine two_ (l := #[true, true, false, true, true, false, false]) (i := 2) (j := 5) (Ni := some 10) (Nj := none) #[true, true, true, true, true, false, false] #[true, true, false, true, true, true, false] rfl rfl rfl rfl (two_of HT_.out (by kernel_rfl)) (by decide) (by decide) (fun K hK => ?_) (fun K hK => ?_))
 all_goals first
  | (refine Kd.R_make_step (Kd.int .i64) _ 2 (by rfl) (N := 10) rfl 22 _ _ rfl (N : Int) rfl rfl Try.underlying22 (.int .i64 0) 8 info2 rfl (by decide) (by omega) 0 (ok := fun _ => True) (okp := fun _ => True) rfl (fun _ hk => hk) trivial HN0.out HN8.out (Below.refl _ _) (Nat.le_refl _) ?_; intro v10 wd_ ho hb hg_ hnew_; clear hg_ hnew_; rw [Int.toNat_natCast, ← sharesV_nil] at ho; obtain ⟨go, co, e10, hgo_, _, _⟩ := Kd.R_form ho (by rw [sharesV_len]; exact HNp.out); rw [sharesV_len] at e10; subst e10; (try have HNN := Aside0.mk (show ga ≠ go by have := blk_lt HA.out; omega)); have HZO := Aside0.mk (show w.heap.size ≤ go by have := bz_ HB.out; omega); clear hgo_; have uO0_ := Aside0.mk (Kd.R_lower ho (bz_ HB.out)); clear ho; (try (have u_ := Aside0.mk (bb_ H2.out hb); clear H2; have H2 := u_; clear u_)); (try (have u_ := Aside0.mk (bb_ H3.out hb); clear H3; have H3 := u_; clear u_)); (try (have u_ := Aside0.mk (bp_ HB.out hb); clear HB; have HB := u_; clear u_)); (try (have u_ := Aside0.mk (Kd.R_below HO.out hb); clear HO; have HO := u_; clear u_)); (try (have u_ := Aside0.mk (bb_ HA.out hb); clear HA; have HA := u_; clear u_)); (try (have u_ := Aside0.mk (bb_ HC.out hb); clear HC; have HC := u_; clear u_)); clear hb; have HO := uO0_; clear uO0_; refine hK.out _ _ ⟨(bc_ H2.out 0).trans rfl, (bc_ H2.out 1).trans rfl, (bc_ H2.out 2).trans rfl⟩ (fun hHeld => ?_); clear hK K; refine norm_ (a' := ?_) ?_ ?_; rotate_left; (· (show Act.put _ (some 10) _ = _; simp only [Act.put, sz_, s0_, s1_, i64_w, i32_w]; rfl)))
  | (refine value_ (N := some 6) (w1 := wd_.alloc (.cells #[.int .i64 0] 2 (0, 0))) (v := .pointer (some ⟨wd_.heap.size, 0, none⟩)) (by rfl) rfl ?_ ?_; (· (go_simp; (try rfl))); have hb := ba_ (Below.refl wd_.heap.size wd_) (.cells #[.int .i64 0] 2 (0, 0)); have hnw := blk_new wd_ (.cells #[.int .i64 0] 2 (0, 0)); have hz := bz_ HB.out; (try have HNN := Aside0.mk (show wd_.heap.size ≠ go by have := Kd.R_lt HO.out go rfl; omega)); (try (have u_ := Aside0.mk (bb_ H2.out hb); clear H2; have H2 := u_; clear u_)); (try (have u_ := Aside0.mk (bb_ H3.out hb); clear H3; have H3 := u_; clear u_)); (try (have u_ := Aside0.mk (bp_ HB.out hb); clear HB; have HB := u_; clear u_)); (try (have u_ := Aside0.mk (Kd.R_below HO.out hb); clear HO; have HO := u_; clear u_)); (try (have u_ := Aside0.mk (bb_ HA.out hb); clear HA; have HA := u_; clear u_)); (try (have u_ := Aside0.mk (bb_ HC.out hb); clear HC; have HC := u_; clear u_)); clear hb; generalize wd_.alloc (.cells #[.int .i64 0] 2 (0, 0)) = wx_ at *; generalize wd_.heap.size = ga at *; have HA := Aside0.mk hnw; have HZA := Aside0.mk hz; clear hnw hz; refine hK.out _ _ ⟨(bc_ H2.out 0).trans rfl, (bc_ H2.out 1).trans rfl, (bc_ H2.out 2).trans rfl⟩ (fun hHeld => ?_); clear hK K; refine norm_ (a' := ?_) ?_ ?_; rotate_left; (· (show Act.put _ (some 6) _ = _; simp only [Act.put, sz_, s0_, s1_, i64_w, i32_w]; rfl)); (try clear wd_); generalize wx_ = wd_ at *)
  | (refine value_ (N := some 7) (w1 := wd_.alloc (.cells #[.slice none 0 0] 22 (0, 0))) (v := .pointer (some ⟨wd_.heap.size, 0, none⟩)) (by rfl) rfl ?_ ?_; (· (go_simp; (try rfl))); have hb := ba_ (Below.refl wd_.heap.size wd_) (.cells #[.slice none 0 0] 22 (0, 0)); have hnw := blk_new wd_ (.cells #[.slice none 0 0] 22 (0, 0)); have hz := bz_ HB.out; (try (have u_ := Aside0.mk (bb_ H2.out hb); clear H2; have H2 := u_; clear u_)); (try (have u_ := Aside0.mk (bb_ H3.out hb); clear H3; have H3 := u_; clear u_)); (try (have u_ := Aside0.mk (bp_ HB.out hb); clear HB; have HB := u_; clear u_)); (try (have u_ := Aside0.mk (Kd.R_below HO.out hb); clear HO; have HO := u_; clear u_)); (try (have u_ := Aside0.mk (bb_ HA.out hb); clear HA; have HA := u_; clear u_)); (try (have u_ := Aside0.mk (bb_ HC.out hb); clear HC; have HC := u_; clear u_)); clear hb; generalize wd_.alloc (.cells #[.slice none 0 0] 22 (0, 0)) = wx_ at *; generalize wd_.heap.size = gb at *; have HC := Aside0.mk hnw; have HZB := Aside0.mk hz; clear hnw hz; refine hK.out _ _ ⟨(bc_ H2.out 0).trans rfl, (bc_ H2.out 1).trans rfl, (bc_ H2.out 2).trans rfl⟩ (fun hHeld => ?_); clear hK K; refine norm_ (a' := ?_) ?_ ?_; rotate_left; (· (show Act.put _ (some 7) _ = _; simp only [Act.put, sz_, s0_, s1_, i64_w, i32_w]; rfl)); (try clear wd_); generalize wx_ = wd_ at *)
  | (have hfA := bf_ HA.out 0; have hcA := (bc_ HA.out 0).trans rfl; refine skip_ (w1 := wd_.setCell ⟨ga, 0, none⟩ (.int .i64 0)) (by rfl) rfl ?_ ?_; (· (go_simp; (try rfl))); (try (have u_ := Aside0.mk (blk_far (p := ⟨ga, 0, none⟩) H2.out (blk_types_ne H2.out HA.out (by decide)) (.int .i64 0)); clear H2; have H2 := u_; clear u_)); (try (have u_ := Aside0.mk (blk_far (p := ⟨ga, 0, none⟩) H3.out (blk_types_ne H3.out HA.out (by decide)) (.int .i64 0)); clear H3; have H3 := u_; clear u_)); have uB_ := Aside0.mk (bs_ HB.out HZA.out : Below w.heap.size w (wd_.setCell ⟨ga, 0, none⟩ (.int .i64 0))); clear HB; have HB := uB_; clear uB_; (try (have u_ := Aside0.mk (blk_far (p := ⟨ga, 0, none⟩) HC.out (blk_types_ne HC.out HA.out (by decide)) (.int .i64 0)); clear HC; have HC := u_; clear u_)); (try (have u_ := Aside0.mk (Kd.R_mono (ok' := fun _ => True) (Kd.R_far (p := ⟨ga, 0, none⟩) (Kd.R_far1 HO.out rfl (g := ga) (fun e => HNN.out (by injection e))) (fun k hk => hk.2) (.int .i64 0)) (fun _ _ => trivial)); clear HO; have HO := u_; clear u_)); (try (have u_ := Aside0.mk (blk_put HA.out 0 (.int .i64 0) rfl); clear HA; have HA := u_; clear u_)); clear hfA hcA; generalize wd_.setCell ⟨ga, 0, none⟩ (.int .i64 0) = wd_ at *; refine hK.out _ _ ⟨(bc_ H2.out 0).trans rfl, (bc_ H2.out 1).trans rfl, (bc_ H2.out 2).trans rfl⟩ (fun hHeld => ?_); clear hK K)
 all_goals first
  | (refine one_ (l := #[true, true, true, true, true, false, false]) (i := 5) (N := none) #[true, true, true, true, true, true, false] rfl rfl (one_of HT_.out (by kernel_rfl)) (by decide) (fun K hK => ?_))
  | (refine one_ (l := #[true, true, false, true, true, true, false]) (i := 2) (N := some 10) #[true, true, true, true, true, true, false] rfl rfl (one_of HT_.out (by kernel_rfl)) (by decide) (fun K hK => ?_))
 all_goals first
  | (refine Kd.R_make_step (Kd.int .i64) _ 2 (by rfl) (N := 10) rfl 22 _ _ rfl (N : Int) rfl rfl Try.underlying22 (.int .i64 0) 8 info2 rfl (by decide) (by omega) 0 (ok := fun _ => True) (okp := fun _ => True) rfl (fun _ hk => hk) trivial HN0.out HN8.out (Below.refl _ _) (Nat.le_refl _) ?_; intro v10 wd_ ho hb hg_ hnew_; clear hg_ hnew_; rw [Int.toNat_natCast, ← sharesV_nil] at ho; obtain ⟨go, co, e10, hgo_, _, _⟩ := Kd.R_form ho (by rw [sharesV_len]; exact HNp.out); rw [sharesV_len] at e10; subst e10; (try have HNN := Aside0.mk (show ga ≠ go by have := blk_lt HA.out; omega)); have HZO := Aside0.mk (show w.heap.size ≤ go by have := bz_ HB.out; omega); clear hgo_; have uO0_ := Aside0.mk (Kd.R_lower ho (bz_ HB.out)); clear ho; (try (have u_ := Aside0.mk (bb_ H2.out hb); clear H2; have H2 := u_; clear u_)); (try (have u_ := Aside0.mk (bb_ H3.out hb); clear H3; have H3 := u_; clear u_)); (try (have u_ := Aside0.mk (bp_ HB.out hb); clear HB; have HB := u_; clear u_)); (try (have u_ := Aside0.mk (Kd.R_below HO.out hb); clear HO; have HO := u_; clear u_)); (try (have u_ := Aside0.mk (bb_ HA.out hb); clear HA; have HA := u_; clear u_)); (try (have u_ := Aside0.mk (bb_ HC.out hb); clear HC; have HC := u_; clear u_)); clear hb; have HO := uO0_; clear uO0_; refine hK.out _ _ ⟨(bc_ H2.out 0).trans rfl, (bc_ H2.out 1).trans rfl, (bc_ H2.out 2).trans rfl⟩ (fun hHeld => ?_); clear hK K; refine norm_ (a' := ?_) ?_ ?_; rotate_left; (· (show Act.put _ (some 10) _ = _; simp only [Act.put, sz_, s0_, s1_, i64_w, i32_w]; rfl)))
  | (have hfA := bf_ HA.out 0; have hcA := (bc_ HA.out 0).trans rfl; refine skip_ (w1 := wd_.setCell ⟨ga, 0, none⟩ (.int .i64 0)) (by rfl) rfl ?_ ?_; (· (go_simp; (try rfl))); (try (have u_ := Aside0.mk (blk_far (p := ⟨ga, 0, none⟩) H2.out (blk_types_ne H2.out HA.out (by decide)) (.int .i64 0)); clear H2; have H2 := u_; clear u_)); (try (have u_ := Aside0.mk (blk_far (p := ⟨ga, 0, none⟩) H3.out (blk_types_ne H3.out HA.out (by decide)) (.int .i64 0)); clear H3; have H3 := u_; clear u_)); have uB_ := Aside0.mk (bs_ HB.out HZA.out : Below w.heap.size w (wd_.setCell ⟨ga, 0, none⟩ (.int .i64 0))); clear HB; have HB := uB_; clear uB_; (try (have u_ := Aside0.mk (blk_far (p := ⟨ga, 0, none⟩) HC.out (blk_types_ne HC.out HA.out (by decide)) (.int .i64 0)); clear HC; have HC := u_; clear u_)); (try (have u_ := Aside0.mk (Kd.R_mono (ok' := fun _ => True) (Kd.R_far (p := ⟨ga, 0, none⟩) (Kd.R_far1 HO.out rfl (g := ga) (fun e => HNN.out (by injection e))) (fun k hk => hk.2) (.int .i64 0)) (fun _ _ => trivial)); clear HO; have HO := u_; clear u_)); (try (have u_ := Aside0.mk (blk_put HA.out 0 (.int .i64 0) rfl); clear HA; have HA := u_; clear u_)); clear hfA hcA; generalize wd_.setCell ⟨ga, 0, none⟩ (.int .i64 0) = wd_ at *; refine hK.out _ _ ⟨(bc_ H2.out 0).trans rfl, (bc_ H2.out 1).trans rfl, (bc_ H2.out 2).trans rfl⟩ (fun hHeld => ?_); clear hK K)
 all_goals generalize wd_ = wz_ at H2 H3 HB HO HA HC hHeld ⊢
 all_goals
  refine last_ (i := 6) (N := none) (flg_ 7 127) rfl rfl (one_of HT_.out (by kernel_rfl)) (by decide) (fun K hK => ?_)
  have hfC := bf_ HC.out 0
  have hcC := (bc_ HC.out 0).trans rfl
  refine skip_ (w1 := World.setCell wz_ ⟨gb, 0, none⟩ (.slice (some ⟨go, 0, none⟩) N co)) (by rfl) rfl ?_ ?_
  ·go_simp
   (try rfl)
  refine hK.out _ _ ?_
  clear hK K hfC hcC hHeld
  have HNE := Aside0.mk (show ShNe w g3 ga gb go from ⟨blk_types_ne H3.out HA.out (by decide), (blk_types_ne HC.out HA.out (by decide)), HNN.out, row_ne H3.out HO.out (by decide), row_ne HC.out HO.out (by decide), HZA.out, HZO.out⟩)
  have uS_ := Aside0.mk (share_start H3.out HC.out HA.out HO.out HB.out HNE.out HZB.out)
  have u2_ := Aside0.mk (blk_far (p := ⟨gb, 0, none⟩) H2.out (blk_types_ne H2.out HC.out (by decide)) (.slice (some ⟨go, 0, none⟩) N co))
  clear H2 H3 HA HC HO HB
  have H2 := u2_
  have HS := uS_
  clear u2_ uS_
  generalize World.setCell wz_ ⟨gb, 0, none⟩ (.slice (some ⟨go, 0, none⟩) N co) = w7 at H2 HS ⊢
  refine done_ (done_of HT_.out (by kernel_rfl)) ?_
  have hs0 := (bc_ H2.out 0).trans rfl
  have hs1 := (bc_ H2.out 1).trans rfl
  have hs2 := (bc_ H2.out 2).trans rfl
  go_wp2_with (first | (go_at_call 37; refine (share_each W0 H0 ships A2 c2 HW.out HH.out HSz.out HSI.out HC2.out HTl.out HTs.out HNE.out HT0.out HTc.out HSh.out HNN0.out HS.out).mono ?_; rintro e w8 ⟨rfl, hE⟩; rw [HDn.out] at hE; have HE := Aside0.mk hE; clear hE H2 HS hs0 hs1 hs2; have ha_ := (bc_ HE.out.ba 0).trans rfl; have hb_ := (bc_ HE.out.bb 0).trans rfl))
  go_quiet (fail)
  (try go_wp2_with fail)
  go_ret2
  have hbq := pbN_ (Below.refl w8.heap.size w8) nq
  exact ⟨_, rfl, Kd.R_mono (Kd.R_below HE.out.row hbq) (fun _ _ => trivial), bp_ HE.out.below hbq⟩
def goFleets (w h : Int) (l : List Int) (T : List S45) (most : Int) : List (List Int) := goV w.toNat h.toNat l T l.length [] 0 most
theorem goFleets_all {w h : Int} {l : List Int} (hs : seaV w h l = true) (T : List S45) : goFleets w h l T (-1) = (fleetsOf w h l).filter fun fl => agFrom fl 0 T := by
 obtain ⟨⟨W0, rfl, hw1, hw5⟩, ⟨H0, rfl, hh1, hh5⟩, _, _⟩ := seaV_nat hs
 unfold goFleets fleetsOf
 simp only [Int.toNat_natCast]
 exact goV_all ⟨hw1, hw5⟩ ⟨hh1, hh5⟩ l (sea_ships hs) T (-1) (by omega) l.length [] 0 (by simp) (used_zero [])
theorem goFleets_none {w h : Int} {l : List Int} (hs : seaV w h l = true) : goFleets w h l [] (-1) = fleetsOf w h l := by
 rw [goFleets_all hs]
 exact List.filter_eq_self.2 (fun _ _ => rfl)
theorem go_env {W0 H0 : Nat} (hW : 1 ≤ W0 ∧ W0 ≤ 5) (hH : 1 ≤ H0 ∧ H0 ≤ 5) (ships : List Int) (hs3 : ships.length ≤ 3) (hin : ∀ j : Nat, j < ships.length → inW (rd ships (j : Int)) 1 5 = true) (T : List S45) (hT : T.length ≤ 1048576) (hc : SeaCells (T.map fun x => x.f0)) :
  (∀ j : Nat, j < ships.length → ∃ kp, spec_l09Placements.f kp (W0 : Int) (H0 : Int) ships (rd ships (j : Int)) = some (placeOf W0 H0 ships j)) ∧ ∀ list : List Int, list.length = ships.length → InPl W0 H0 ships list → ∃ ka, spec_l09Agrees.f ka list T = some (agFrom list 0 T) := by
 refine ⟨fun j hj => ?_, fun list hl hi => ?_⟩
 ·obtain ⟨n, hn, h1, h5⟩ := inW_five (hin j hj)
  obtain ⟨K, hK⟩ := specPlacements_ev hW hH.2 ⟨h1, h5⟩ ships
  exact ⟨K, by rw [hn]; unfold placeOf; rw [hn, Int.toNat_natCast]; exact hK K (Nat.le_refl _)⟩
 ·have hN : NumFleet list := fun x hx => by
   obtain ⟨j, hj, rfl⟩ := List.mem_iff_getElem.1 hx
   obtain ⟨n, hn, h1, h5⟩ := inW_five (hin j (by omega))
   have := hi j hj
   unfold placeOf at this
   rw [hn, Int.toNat_natCast] at this
   obtain ⟨m, e, _, h⟩ := placesOf_num hW.1 hW.2 hH.2 h1 _ this
   exact ⟨m, e, h⟩
  obtain ⟨K, hK⟩ := specAgrees_ev hN (by omega) T hT hc
  exact ⟨K, hK K (Nat.le_refl _)⟩

end Go.Proofs.Ythmfpdkemkjpkaa.F
