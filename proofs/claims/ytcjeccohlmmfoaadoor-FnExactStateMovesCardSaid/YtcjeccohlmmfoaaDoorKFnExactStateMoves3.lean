-- written by the session's program xp.py over the kit's print program, and by hand; texts joined by pack.py
import Derived.Test.YtcjeccohlmmfoaaDoorKFnExactStateMoves2
namespace Go.Proofs.YtcjeccohlmmfoaaDoor.F
open Go.RowKit Go.Proofs.YtcjeccohlmmfoaaDoorW.PrintWords Go.Proofs.YtcjeccohlmmfoaaDoorW.PrintLast Go.Proofs.YtcjeccohlmmfoaaDoorW.PrintMore
attribute [local go_sem] max2_int min2_int max_two min_two max_three min_three max_four min_four   -- for this text's walks alone
set_option linter.unusedVariables false
set_option linter.unusedSimpArgs false

/-! ### slices_IndexFunc_int64_int64_95: function 95 -/
-- EXTERNAL: by hand
set_option maxHeartbeats 4000000 in
set_option maxRecDepth 100000 in
theorem slices_IndexFunc_int64_int64_95.calls (g : Nat) (lb : Array Value) (q : (List Int) → Prop) (p : (List Int) → Bool) (eg : ∀ args w, (callFunc g args).run Tryd.prog w = .ok (.enter g args) w)
    (A0 : Option Addr) (c0 : Nat) (l0 : List (List Int)) (w : World) (hp : PredK Tryd.prog g lb (Kd.slice 2 (Kd.int .i64)) q p w) (hq : ∀ x ∈ l0, q x) (hr0 : Kd.C (Kd.slice 2 (Kd.int .i64)) w A0 l0.length l0) (hm : l0.length ≤ 9223372036854775807) :
    Calls Tryd.prog 95 #[.slice A0 l0.length c0, .func (.func g) #[] lb] w fun e w' => e = .returned (.int .i64 (idxK p l0 0)) ∧ Below w.heap.size w w' := by
  have HP := Aside0.mk hp
  have HR := Aside0.mk hr0
  have HQ := Aside0.mk hq
  clear hp hr0 hq
  go_enter Tryd.func95, Tryd.ntmps95
  go_wp2
  go_loopg [5, 8] l0.length (fun gg _ s8 wr => ∃ kk : Nat, kk ≤ l0.length ∧ l0.length - kk ≤ gg ∧ s8 = .int .i64 kk ∧ Aside0 (idxK p (l0.drop kk) kk = idxK p l0 0) ∧ Aside0 (Below w.heap.size w wr))
  case atStart => exact ⟨0, Nat.zero_le _, by omega, rfl, ⟨rfl⟩, ⟨Below.refl _ _⟩⟩
  case round =>
    obtain ⟨kk, hkk, hg, rfl, A, HB⟩ := hrel
    by_cases hlt : kk < l0.length
    · have hltz : (kk : Int) < (l0.length : Int) := by omega
      obtain ⟨ad, v, rfl, hcell, hK⟩ := Kd.C_one rfl (Kd.C_below HR.out HB.out) kk hlt rfl
      have hcall := HP.out wr _ v (HQ.out _ (List.getElem_mem hlt)) hK HB.out
      have HK1 := (Kd.slice 2 (Kd.int .i64)).K_one hK v (by simp)
      have E := Aside0.mk (idxK_drop p l0 kk hlt)
      generalize p l0[kk] = b at hcall E
      clear hK
      cases b with
      | true =>
        go_wp2_with (go_at_fn g; refine hcall.mono ?_; rintro e w' ⟨rfl, hb⟩)
        go_ret
        refine ⟨?_, below_then HB.out HB.out.size hb⟩
        rw [← A.out, E.out]; rfl
      | false =>
        go_wp2_with (go_at_fn g; refine hcall.mono ?_; rintro e w' ⟨rfl, hb⟩)
        go_roundg (l0.length - (kk + 1))
        case measure => omega
        case rel => exact ⟨kk + 1, by omega, by omega, by go_num, ⟨by rw [← A.out, E.out]; rfl⟩, ⟨below_then HB.out HB.out.size hb⟩⟩
    · have hltz : ¬ (kk : Int) < (l0.length : Int) := by omega
      have : kk = l0.length := by omega
      subst this
      go_wp2
      go_ret
      refine ⟨?_, HB.out⟩
      rw [← A.out]; simp [idxK]/-! ### slices_ContainsFunc_int64_int64_83: function 83 -/
-- EXTERNAL: by hand
set_option maxHeartbeats 1000000 in
theorem slices_ContainsFunc_int64_int64_83.calls (g : Nat) (lb : Array Value) (q : (List Int) → Prop) (p : (List Int) → Bool) (eg : ∀ args w, (callFunc g args).run Tryd.prog w = .ok (.enter g args) w)
    (A0 : Option Addr) (c0 : Nat) (l0 : List (List Int)) (w : World) (hp : PredK Tryd.prog g lb (Kd.slice 2 (Kd.int .i64)) q p w) (hq : ∀ x ∈ l0, q x) (hr0 : Kd.C (Kd.slice 2 (Kd.int .i64)) w A0 l0.length l0) (hm : l0.length ≤ 9223372036854775807) :
    Calls Tryd.prog 83 #[.slice A0 l0.length c0, .func (.func g) #[] lb] w fun e w' => e = .returned (.bool (l0.any p)) ∧ Below w.heap.size w w' := by
  rw [← idxK_any]
  have HI := slices_IndexFunc_int64_int64_95.calls g lb q p eg A0 c0 l0 w hp hq hr0 hm
  clear hp hq hr0
  generalize idxK p l0 0 = r at HI ⊢
  go_enter Tryd.func83, Tryd.ntmps83
  go_wp2_with (go_at_call 95; refine HI.mono ?_; rintro e w' ⟨rfl, hb⟩)
  go_ret
  exact ⟨rfl, hb⟩/-! ### cmp_isNaN_int64: function 100 -/
def cmp_isNaN_int64.f (a0 : Int) : Option (Bool) := some (a0 != a0)
set_option maxHeartbeats 8000000 in
set_option maxRecDepth 100000 in
theorem cmp_isNaN_int64.calls (a0 : Int) (r : Bool) (w : World) (h : cmp_isNaN_int64.f a0 = some r) :
  Calls Tryd.prog 100 #[.int .i64 a0] w fun e w' => e = .returned (.bool r) ∧ Drawn0 w w' := by
 have H : (some (a0 != a0)) = some r := h
 clear h
 obtain rfl := Option.some.inj H
 go_enter Tryd.func100, Tryd.ntmps100
 go_wp2
 go_ret
 exact ⟨by first | rfl | (simp; done) | (simp [*]; done), by repeat (first | exact Drawn0.refl _ | apply Drawn0.step)⟩
/-! ### cmp_Compare_int64: function 96 -/
def cmp_Compare_int64.f (a0 : Int) (a1 : Int) : Option (Int) := (cmp_isNaN_int64.f a0).bind fun t172 => ((cmp_isNaN_int64.f a1).bind fun t173 => (if t172 = true then (if t173 = true then (some 0) else (some (-1))) else (if t173 = true then (some 1) else (if a0 < a1 then (some (-1)) else (if a0 > a1 then (some 1) else (some 0))))))
set_option maxHeartbeats 8000000 in
set_option maxRecDepth 100000 in
theorem cmp_Compare_int64.calls (a0 : Int) (a1 : Int) (r : Int) (w : World) (h : cmp_Compare_int64.f a0 a1 = some r) :
  Calls Tryd.prog 96 #[.int .i64 a0, .int .i64 a1] w fun e w' => e = .returned (.int .i64 r) ∧ Drawn0 w w' := by
 have H : ((cmp_isNaN_int64.f a0).bind fun t172 => ((cmp_isNaN_int64.f a1).bind fun t173 => (if t172 = true then (if t173 = true then (some 0) else (some (-1))) else (if t173 = true then (some 1) else (if a0 < a1 then (some (-1)) else (if a0 > a1 then (some 1) else (some 0))))))) = some r := h
 clear h
 replace H := Option.bind_eq_some_iff.mp H
 obtain ⟨t172, A30, H⟩ := H
 replace H : ((cmp_isNaN_int64.f a1).bind fun t173 => (if t172 = true then (if t173 = true then (some 0) else (some (-1))) else (if t173 = true then (some 1) else (if a0 < a1 then (some (-1)) else (if a0 > a1 then (some 1) else (some 0)))))) = some r := H
 have A3 := Aside0.mk A30
 clear A30
 replace H := Option.bind_eq_some_iff.mp H
 obtain ⟨t173, A40, H⟩ := H
 replace H : (if t172 = true then (if t173 = true then (some 0) else (some (-1))) else (if t173 = true then (some 1) else (if a0 < a1 then (some (-1)) else (if a0 > a1 then (some 1) else (some 0))))) = some r := H
 have A4 := Aside0.mk A40
 clear A40
 by_cases c5 : t172 = true
 ·subst c5
  have H1 : (if t173 = true then (some 0) else (some (-1))) = some r := by rw [if_pos rfl] at H; exact H
  clear H
  have H := H1
  clear H1
  by_cases c6 : t173 = true
  ·subst c6
   have H1 : (some 0) = some r := by rw [if_pos rfl] at H; exact H
   clear H
   have H := H1
   clear H1
   obtain rfl := Option.some.inj H
   go_enter Tryd.func96, Tryd.ntmps96
   go_wp2_with (first | ((with_reducible refine gate_callee (f := 100) rfl ?_); refine goesA_ (some 8) rfl rfl Tryd.func100 (by kernel_rfl) rfl #[.int .i64 a0] rfl ?_; (with_reducible refine (cmp_isNaN_int64.calls a0 true _ A3.out).mono ?_); rintro e w' ⟨rfl, ⟨nd, rfl⟩⟩; refine ⟨_, rfl, ?_⟩) | ((with_reducible refine gate_callee (f := 100) rfl ?_); refine goesA_ (some 10) rfl rfl Tryd.func100 (by kernel_rfl) rfl #[.int .i64 a1] rfl ?_; (with_reducible refine (cmp_isNaN_int64.calls a1 true _ A4.out).mono ?_); rintro e w' ⟨rfl, ⟨nd, rfl⟩⟩; refine ⟨_, rfl, ?_⟩))
   go_ret
   exact ⟨by first | rfl | (simp; done) | (simp [*]; done), by repeat (first | exact Drawn0.refl _ | apply Drawn0.step)⟩
  ·replace c6 := Bool.eq_false_iff.mpr c6
   subst c6
   have H1 : (some (-1)) = some r := by rw [if_neg (show ¬ (false = true) by decide)] at H; exact H
   clear H
   have H := H1
   clear H1
   obtain rfl := Option.some.inj H
   go_enter Tryd.func96, Tryd.ntmps96
   go_wp2_with (first | ((with_reducible refine gate_callee (f := 100) rfl ?_); refine goesA_ (some 8) rfl rfl Tryd.func100 (by kernel_rfl) rfl #[.int .i64 a0] rfl ?_; (with_reducible refine (cmp_isNaN_int64.calls a0 true _ A3.out).mono ?_); rintro e w' ⟨rfl, ⟨nd, rfl⟩⟩; refine ⟨_, rfl, ?_⟩) | ((with_reducible refine gate_callee (f := 100) rfl ?_); refine goesA_ (some 10) rfl rfl Tryd.func100 (by kernel_rfl) rfl #[.int .i64 a1] rfl ?_; (with_reducible refine (cmp_isNaN_int64.calls a1 false _ A4.out).mono ?_); rintro e w' ⟨rfl, ⟨nd, rfl⟩⟩; refine ⟨_, rfl, ?_⟩))
   go_ret
   exact ⟨by first | rfl | (simp; done) | (simp [*]; done), by repeat (first | exact Drawn0.refl _ | apply Drawn0.step)⟩
 ·replace c5 := Bool.eq_false_iff.mpr c5
  subst c5
  have H1 : (if t173 = true then (some 1) else (if a0 < a1 then (some (-1)) else (if a0 > a1 then (some 1) else (some 0)))) = some r := by rw [if_neg (show ¬ (false = true) by decide)] at H; exact H
  clear H
  have H := H1
  clear H1
  by_cases c7 : t173 = true
  ·subst c7
   have H1 : (some 1) = some r := by rw [if_pos rfl] at H; exact H
   clear H
   have H := H1
   clear H1
   obtain rfl := Option.some.inj H
   go_enter Tryd.func96, Tryd.ntmps96
   go_wp2_with (first | ((with_reducible refine gate_callee (f := 100) rfl ?_); refine goesA_ (some 8) rfl rfl Tryd.func100 (by kernel_rfl) rfl #[.int .i64 a0] rfl ?_; (with_reducible refine (cmp_isNaN_int64.calls a0 false _ A3.out).mono ?_); rintro e w' ⟨rfl, ⟨nd, rfl⟩⟩; refine ⟨_, rfl, ?_⟩) | ((with_reducible refine gate_callee (f := 100) rfl ?_); refine goesA_ (some 10) rfl rfl Tryd.func100 (by kernel_rfl) rfl #[.int .i64 a1] rfl ?_; (with_reducible refine (cmp_isNaN_int64.calls a1 true _ A4.out).mono ?_); rintro e w' ⟨rfl, ⟨nd, rfl⟩⟩; refine ⟨_, rfl, ?_⟩))
   go_ret
   exact ⟨by first | rfl | (simp; done) | (simp [*]; done), by repeat (first | exact Drawn0.refl _ | apply Drawn0.step)⟩
  ·replace c7 := Bool.eq_false_iff.mpr c7
   subst c7
   have H1 : (if a0 < a1 then (some (-1)) else (if a0 > a1 then (some 1) else (some 0))) = some r := by rw [if_neg (show ¬ (false = true) by decide)] at H; exact H
   clear H
   have H := H1
   clear H1
   by_cases c8 : a0 < a1
   ·rw [if_pos c8] at H
    have c8b0 : decide (a0 < a1) = true := decide_eq_true c8
    clear c8
    obtain rfl := Option.some.inj H
    go_enter Tryd.func96, Tryd.ntmps96
    go_wp2_with (first | ((with_reducible refine gate_callee (f := 100) rfl ?_); refine goesA_ (some 8) rfl rfl Tryd.func100 (by kernel_rfl) rfl #[.int .i64 a0] rfl ?_; (with_reducible refine (cmp_isNaN_int64.calls a0 false _ A3.out).mono ?_); rintro e w' ⟨rfl, ⟨nd, rfl⟩⟩; refine ⟨_, rfl, ?_⟩) | ((with_reducible refine gate_callee (f := 100) rfl ?_); refine goesA_ (some 10) rfl rfl Tryd.func100 (by kernel_rfl) rfl #[.int .i64 a1] rfl ?_; (with_reducible refine (cmp_isNaN_int64.calls a1 false _ A4.out).mono ?_); rintro e w' ⟨rfl, ⟨nd, rfl⟩⟩; refine ⟨_, rfl, ?_⟩))
    go_ret
    exact ⟨by first | rfl | (simp; done) | (simp [*]; done), by repeat (first | exact Drawn0.refl _ | apply Drawn0.step)⟩
   ·rw [if_neg c8] at H
    have c8b0 : decide (a0 < a1) = false := decide_eq_false c8
    clear c8
    by_cases c9 : a0 > a1
    ·rw [if_pos c9] at H
     have c9b0 : decide (a1 < a0) = true := decide_eq_true c9
     clear c9
     obtain rfl := Option.some.inj H
     go_enter Tryd.func96, Tryd.ntmps96
     go_wp2_with (first | ((with_reducible refine gate_callee (f := 100) rfl ?_); refine goesA_ (some 8) rfl rfl Tryd.func100 (by kernel_rfl) rfl #[.int .i64 a0] rfl ?_; (with_reducible refine (cmp_isNaN_int64.calls a0 false _ A3.out).mono ?_); rintro e w' ⟨rfl, ⟨nd, rfl⟩⟩; refine ⟨_, rfl, ?_⟩) | ((with_reducible refine gate_callee (f := 100) rfl ?_); refine goesA_ (some 10) rfl rfl Tryd.func100 (by kernel_rfl) rfl #[.int .i64 a1] rfl ?_; (with_reducible refine (cmp_isNaN_int64.calls a1 false _ A4.out).mono ?_); rintro e w' ⟨rfl, ⟨nd, rfl⟩⟩; refine ⟨_, rfl, ?_⟩))
     go_ret
     exact ⟨by first | rfl | (simp; done) | (simp [*]; done), by repeat (first | exact Drawn0.refl _ | apply Drawn0.step)⟩
    ·rw [if_neg c9] at H
     have c9b0 : decide (a1 < a0) = false := decide_eq_false c9
     clear c9
     obtain rfl := Option.some.inj H
     go_enter Tryd.func96, Tryd.ntmps96
     go_wp2_with (first | ((with_reducible refine gate_callee (f := 100) rfl ?_); refine goesA_ (some 8) rfl rfl Tryd.func100 (by kernel_rfl) rfl #[.int .i64 a0] rfl ?_; (with_reducible refine (cmp_isNaN_int64.calls a0 false _ A3.out).mono ?_); rintro e w' ⟨rfl, ⟨nd, rfl⟩⟩; refine ⟨_, rfl, ?_⟩) | ((with_reducible refine gate_callee (f := 100) rfl ?_); refine goesA_ (some 10) rfl rfl Tryd.func100 (by kernel_rfl) rfl #[.int .i64 a1] rfl ?_; (with_reducible refine (cmp_isNaN_int64.calls a1 false _ A4.out).mono ?_); rintro e w' ⟨rfl, ⟨nd, rfl⟩⟩; refine ⟨_, rfl, ?_⟩))
     go_ret
     exact ⟨by first | rfl | (simp; done) | (simp [*]; done), by repeat (first | exact Drawn0.refl _ | apply Drawn0.step)⟩
/-! ### slices_Compare_int64_int64: function 87 -/
def slices_Compare_int64_int64.l0 : Nat → List Int → List Int → List Int → Int → Int → Option (Int)
 | 0, _, _, _, _, _ => none
 | k + 1, x0, x1, x9, x10, x11 => if x11 < x10 then (if 0 ≤ x11 then (if x11 < (x9.length : Int) then (if x11 ≥ (x1.length : Int) then (some 1) else (if x11 < (x1.length : Int) then ((cmp_Compare_int64.f (rd x9 x11) (rd x1 x11)).bind fun t176 => (if t176 = 0 then (slices_Compare_int64_int64.l0 k x0 x1 x9 x10 (wrap64 (x11 + 1))) else (some t176))) else (none))) else (none)) else (none)) else (if (x0.length : Int) < (x1.length : Int) then (some (-1)) else (some 0))
def slices_Compare_int64_int64.f (k : Nat) (l0 : List Int) (l1 : List Int) : Option (Int) := slices_Compare_int64_int64.l0 k l0 l1 l0 (l0.length : Int) 0
set_option maxHeartbeats 8000000 in
set_option maxRecDepth 100000 in
theorem slices_Compare_int64_int64.calls (k : Nat) (A0 : Option Addr) (c0 : Nat) (l0 : List Int) (A1 : Option Addr) (c1 : Nat) (l1 : List Int) (r : Int) (w : World) (hr0 : Kd.C (Kd.int .i64) w A0 l0.length l0) (hc0 : l0.length ≤ c0) (hr1 : Kd.C (Kd.int .i64) w A1 l1.length l1) (hc1 : l1.length ≤ c1) (h : slices_Compare_int64_int64.f k l0 l1 = some r) :
  Calls Tryd.prog 87 #[.slice A0 l0.length c0, .slice A1 l1.length c1] w fun e w' => e = .returned (.int .i64 r) ∧ Drawn0 w w' := by
 have HR0 := Aside0.mk hr0
 have HC0 := Aside0.mk hc0
 clear hr0 hc0
 have HR1 := Aside0.mk hr1
 have HC1 := Aside0.mk hc1
 clear hr1 hc1
 have H : (slices_Compare_int64_int64.l0 k l0 l1 l0 (l0.length : Int) 0) = some r := h
 clear h
 have H' := Aside0.mk H
 clear H
 go_enter Tryd.func87, Tryd.ntmps87
 go_wp2
 go_loopg [11] k (fun kq v11 w' => ∃ (x11_1 : Int), v11 = .int .i64 x11_1 ∧ Aside0 (slices_Compare_int64_int64.l0 kq l0 l1 l0 (l0.length : Int) x11_1 = some r) ∧ Aside0 (kq ≤ k) ∧ Drawn0 w w')
 case atStart => exact ⟨(0), (by first | rfl | (simp; done) | (simp [*]; done)), H', ⟨Nat.le_refl _⟩, by repeat (first | exact Drawn0.refl _ | apply Drawn0.step)⟩
 case round =>
  clear H'
  (try clear c1); (try clear p2)
  obtain ⟨x11_1, rfl, HA, HK1, ⟨m1, rfl⟩⟩ := hrel
  cases gk with
  | zero => exact absurd HA.out (by simp [slices_Compare_int64_int64.l0])
  | succ k1 =>
   have H := HA.out
   clear HA
   simp only [slices_Compare_int64_int64.l0] at H
   by_cases c3 : x11_1 < (l0.length : Int)
   ·rw [if_pos c3] at H
    have c3b0 : decide (x11_1 < (l0.length : Int)) = true := decide_eq_true c3
    clear c3
    by_cases c4 : 0 ≤ x11_1
    ·rw [if_pos c4] at H
     have c4b0 : decide (0 ≤ x11_1) = true := decide_eq_true c4
     clear c4
     by_cases c5 : x11_1 < (l0.length : Int)
     ·rw [if_pos c5] at H
      have c5b0 : decide (x11_1 < (l0.length : Int)) = true := decide_eq_true c5
      clear c5
      by_cases c6 : x11_1 ≥ (l1.length : Int)
      ·rw [if_pos c6] at H
       have c6b0 : decide ((l1.length : Int) ≤ x11_1) = true := decide_eq_true c6
       clear c6
       obtain rfl := Option.some.inj H
       have p174 : 0 ≤ (x11_1 : Int) := oda
       have q174 : x11_1 < (l0.length : Int) := oda
       obtain ⟨ad174, e174, hx174_0⟩ := Kd.at_int HR0.out x11_1 p174 q174
       cases e174
       replace p174 := eq_true p174
       replace q174 := eq_true q174
       go_wp2
       go_ret
       exact ⟨by first | rfl | (simp; done) | (simp [*]; done), by repeat (first | exact Drawn0.refl _ | apply Drawn0.step)⟩
      ·rw [if_neg c6] at H
       have c6b0 : decide ((l1.length : Int) ≤ x11_1) = false := decide_eq_false c6
       clear c6
       by_cases c7 : x11_1 < (l1.length : Int)
       ·rw [if_pos c7] at H
        have c7b0 : decide (x11_1 < (l1.length : Int)) = true := decide_eq_true c7
        clear c7
        replace H := Option.bind_eq_some_iff.mp H
        obtain ⟨t176, A80, H⟩ := H
        replace H : (if t176 = 0 then (slices_Compare_int64_int64.l0 k1 l0 l1 l0 (l0.length : Int) (wrap64 (x11_1 + 1))) else (some t176)) = some r := H
        have A8 := Aside0.mk A80
        clear A80
        by_cases c9 : t176 = 0
        ·rw [if_pos c9] at H
         have c9b0 : (t176 == 0) = true := beq_iff_eq.mpr c9
         have c9b1 : (t176 != 0) = false := bne_eq_false_iff_eq.mpr c9
         clear c9
         have H' := Aside0.mk H
         clear H
         have p174 : 0 ≤ (x11_1 : Int) := oda
         have q174 : x11_1 < (l0.length : Int) := oda
         obtain ⟨ad174, e174, hx174_0⟩ := Kd.at_int HR0.out x11_1 p174 q174
         cases e174
         replace p174 := eq_true p174
         replace q174 := eq_true q174
         have p175 : 0 ≤ (x11_1 : Int) := oda
         have q175 : x11_1 < (l1.length : Int) := oda
         obtain ⟨ad175, e175, hx175_0⟩ := Kd.at_int HR1.out x11_1 p175 q175
         cases e175
         replace p175 := eq_true p175
         replace q175 := eq_true q175
         go_wp2_with (first | ((with_reducible refine gate_callee (f := 96) rfl ?_); refine goesA_ (some 26) rfl rfl Tryd.func96 (by kernel_rfl) rfl #[.int .i64 (rd l0 x11_1), .int .i64 (rd l1 x11_1)] rfl ?_; (with_reducible refine (cmp_Compare_int64.calls (rd l0 x11_1) (rd l1 x11_1) t176 _ A8.out).mono ?_); rintro e w' ⟨rfl, ⟨nd, rfl⟩⟩; refine ⟨_, rfl, ?_⟩))
         go_roundg k1
         case measure => have := HK1.out; omega
         case rel => exact ⟨(wrap64 (x11_1 + 1)), (by first | rfl | (simp; done) | (simp [*]; done)), H', ⟨by have := HK1.out; omega⟩, by repeat (first | exact Drawn0.refl _ | apply Drawn0.step)⟩
        ·rw [if_neg c9] at H
         have c9b0 : (t176 == 0) = false := beq_eq_false_iff_ne.mpr c9
         have c9b1 : (t176 != 0) = true := bne_iff_ne.mpr c9
         obtain rfl := Option.some.inj H
         have p174 : 0 ≤ (x11_1 : Int) := oda
         have q174 : x11_1 < (l0.length : Int) := oda
         obtain ⟨ad174, e174, hx174_0⟩ := Kd.at_int HR0.out x11_1 p174 q174
         cases e174
         replace p174 := eq_true p174
         replace q174 := eq_true q174
         have p175 : 0 ≤ (x11_1 : Int) := oda
         have q175 : x11_1 < (l1.length : Int) := oda
         obtain ⟨ad175, e175, hx175_0⟩ := Kd.at_int HR1.out x11_1 p175 q175
         cases e175
         replace p175 := eq_true p175
         replace q175 := eq_true q175
         go_wp2_with (first | ((with_reducible refine gate_callee (f := 96) rfl ?_); refine goesA_ (some 26) rfl rfl Tryd.func96 (by kernel_rfl) rfl #[.int .i64 (rd l0 x11_1), .int .i64 (rd l1 x11_1)] rfl ?_; (with_reducible refine (cmp_Compare_int64.calls (rd l0 x11_1) (rd l1 x11_1) t176 _ A8.out).mono ?_); rintro e w' ⟨rfl, ⟨nd, rfl⟩⟩; refine ⟨_, rfl, ?_⟩))
         go_ret
         exact ⟨by first | rfl | (simp; done) | (simp [*]; done), by repeat (first | exact Drawn0.refl _ | apply Drawn0.step)⟩
       ·rw [if_neg c7] at H
        exact absurd H (by simp)
     ·rw [if_neg c5] at H
      exact absurd H (by simp)
    ·rw [if_neg c4] at H
     exact absurd H (by simp)
   ·rw [if_neg c3] at H
    have c3b0 : decide (x11_1 < (l0.length : Int)) = false := decide_eq_false c3
    clear c3
    by_cases c10 : (l0.length : Int) < (l1.length : Int)
    ·rw [if_pos c10] at H
     have c10b0 : decide ((l0.length : Int) < (l1.length : Int)) = true := decide_eq_true c10
     have c10b1 : decide (l0.length < l1.length) = true := decide_eq_true (Int.ofNat_lt.mp c10)
     clear c10
     obtain rfl := Option.some.inj H
     go_wp2
     go_ret
     exact ⟨by first | rfl | (simp; done) | (simp [*]; done), by repeat (first | exact Drawn0.refl _ | apply Drawn0.step)⟩
    ·rw [if_neg c10] at H
     have c10b0 : decide ((l0.length : Int) < (l1.length : Int)) = false := decide_eq_false c10
     have c10b1 : decide (l0.length < l1.length) = false := decide_eq_false (fun h => c10 (Int.ofNat_lt.mpr h))
     clear c10
     obtain rfl := Option.some.inj H
     go_wp2
     go_ret
     exact ⟨by first | rfl | (simp; done) | (simp [*]; done), by repeat (first | exact Drawn0.refl _ | apply Drawn0.step)⟩
/-- Plain facts on the verifier's helpers: copies are copies, and a list is equal to itself. -/
theorem wrap_next {i : Nat} {n : Nat} (h : i < n) (hn : n ≤ 9223372036854775807) : wrap64 ((i : Int) + 1) = ((i + 1 : Nat) : Int) := by
  unfold wrap64; omega
theorem rd_nat (l : List Int) (i : Nat) : rd l (i : Int) = l.getD i 0 := rfl
theorem rd_get (l : List Int) (i : Nat) (h : i < l.length) : rd l (i : Int) = l[i] := by
  rw [rd_nat, List.getD_eq_getElem?_getD, List.getElem?_eq_getElem h]; rfl
theorem take_set_next {α : Type} (x y : List α) (i : Nat) (h : i < x.length) (hl : y.length = x.length) (ht : y.take i = x.take i) : (y.set i x[i]).take (i + 1) = x.take (i + 1) := by
  rw [List.take_succ_eq_append_getElem h, List.take_succ_eq_append_getElem (by simpa [hl] using h)]
  congr 1
  · rw [List.take_set_of_le (Nat.le_refl i)]; exact ht
  · simp
theorem toInt64S_l0 (x : List Int) (hx : x.length ≤ 35184372088832) : ∀ (d i : Nat) (y : List Int), i + d = x.length → y.length = x.length → y.take i = x.take i → Ev (fun k => laws_toInt64S.l0 k x y i) x := by
  intro d
  induction d with
  | zero =>
    intro i y hi hl ht
    refine Ev.step (f := fun _ => some x) (fun k => ?_) (Ev.now _)
    simp only [laws_toInt64S.l0]
    rw [if_neg (by omega)]
    have : i = x.length := by omega
    rw [this, List.take_of_length_le (by omega), List.take_of_length_le (by omega)] at ht
    rw [ht]
  | succ d ih =>
    intro i y hi hl ht
    have hlt : i < x.length := by omega
    refine Ev.step (f := fun k => laws_toInt64S.l0 k x (y.set i x[i]) ((i + 1 : Nat) : Int)) (fun k => ?_) (ih (i + 1) _ (by omega) (by simpa using hl) (take_set_next x y i hlt hl ht))
    simp only [laws_toInt64S.l0]
    rw [if_pos (by omega), if_pos (by omega), if_pos (by omega), wrap_next hlt (by omega), rd_get x i hlt, Int.toNat_natCast]
theorem toInt64S_ev (x : List Int) (hx : x.length ≤ 35184372088832) : Ev (fun k => laws_toInt64S.f k x) x := by
  refine Ev.congr (f := fun k => laws_toInt64S.l0 k x (List.replicate x.length 0) ((0 : Nat) : Int)) (fun k => ?_) (toInt64S_l0 x hx x.length 0 _ (by omega) (by simp) (by simp))
  unfold laws_toInt64S.f
  rw [if_pos (by omega), if_pos (by omega), Int.toNat_natCast]; rfl
theorem eqInt64S_l0 (x y : List Int) (hl : x.length = y.length) (hx : x.length ≤ 9223372036854775807) : ∀ (d i : Nat), i + d = x.length → x.take i = y.take i → Ev (fun k => laws_eqInt64S.l0 k x y i) (decide (x = y)) := by
  intro d
  induction d with
  | zero =>
    intro i hi ht
    refine Ev.step (f := fun _ => some (decide (x = y))) (fun k => ?_) (Ev.now _)
    simp only [laws_eqInt64S.l0]
    rw [if_neg (by omega)]
    have : i = x.length := by omega
    rw [this, List.take_of_length_le (by omega), List.take_of_length_le (by omega)] at ht
    simp [ht]
  | succ d ih =>
    intro i hi ht
    have hlt : i < x.length := by omega
    by_cases he : x[i] = y[i]
    · refine Ev.step (f := fun k => laws_eqInt64S.l0 k x y ((i + 1 : Nat) : Int)) (fun k => ?_) (ih (i + 1) (by omega) ?_)
      · simp only [laws_eqInt64S.l0]
        rw [if_pos (by omega), if_pos (by omega), if_pos (by omega), wrap_next hlt (by omega), rd_get x i hlt, rd_get y i (by omega), if_pos he]
      · rw [List.take_succ_eq_append_getElem hlt, List.take_succ_eq_append_getElem (by omega), ht, he]
    · refine Ev.step (f := fun _ => some (decide (x = y))) (fun k => ?_) (Ev.now _)
      simp only [laws_eqInt64S.l0]
      rw [if_pos (by omega), if_pos (by omega), if_pos (by omega), rd_get x i hlt, rd_get y i (by omega), if_neg he]
      have : x ≠ y := fun h => he (by subst h; rfl)
      simp [this]
theorem eqInt64S_ev (x y : List Int) (hx : x.length ≤ 9223372036854775807) : Ev (fun k => laws_eqInt64S.f k x y) (decide (x = y)) := by
  by_cases h : x.length = y.length
  · refine Ev.congr (f := fun k => laws_eqInt64S.l0 k x y ((0 : Nat) : Int)) (fun k => ?_) (eqInt64S_l0 x y h hx x.length 0 (by omega) (by simp))
    unfold laws_eqInt64S.f
    rw [if_pos (by omega)]; rfl
  · refine Ev.congr (f := fun _ => some (decide (x = y))) (fun k => ?_) (Ev.now _)
    unfold laws_eqInt64S.f
    rw [if_neg (by omega)]
    have : x ≠ y := fun e => h (by rw [e])
    simp [this]
theorem eqInt64S_self (x : List Int) (hx : x.length ≤ 9223372036854775807) : Ev (fun k => laws_eqInt64S.f k x x) true := by
  have := eqInt64S_ev x x hx
  simpa using this
/-- slices.Compare of numbers, as a plain function, and what the machine does. -/
def cmpL : List Int → List Int → Int
  | [], [] => 0
  | [], _ :: _ => -1
  | _ :: _, [] => 1
  | a :: x, b :: y => if a < b then -1 else if b < a then 1 else cmpL x y
theorem cmp1_f (a b : Int) : cmp_Compare_int64.f a b = some (if a < b then -1 else if b < a then 1 else 0) := by
  unfold cmp_Compare_int64.f cmp_isNaN_int64.f
  by_cases h1 : a < b
  · simp [h1]
  · by_cases h2 : b < a <;> simp [h1, h2]
theorem compare_l0 (x y : List Int) (hx : x.length ≤ 9223372036854775807) : ∀ (d i : Nat), i + d = x.length → i ≤ y.length → Ev (fun k => slices_Compare_int64_int64.l0 k x y x (x.length : Int) i) (cmpL (x.drop i) (y.drop i)) := by
  intro d
  induction d with
  | zero =>
    intro i hi hy
    refine Ev.step (f := fun _ => some _) (fun k => ?_) (Ev.now _)
    simp only [slices_Compare_int64_int64.l0]
    rw [if_neg (by omega), List.drop_of_length_le (l := x) (by omega)]
    by_cases h : i < y.length
    · rw [if_pos (by omega), List.drop_eq_getElem_cons h]; rfl
    · rw [if_neg (by omega), List.drop_of_length_le (by omega)]; rfl
  | succ d ih =>
    intro i hi hy
    have hlt : i < x.length := by omega
    by_cases h : i < y.length
    · have e1 : x.drop i = x[i] :: x.drop (i + 1) := List.drop_eq_getElem_cons hlt
      have e2 : y.drop i = y[i] :: y.drop (i + 1) := List.drop_eq_getElem_cons h
      rw [e1, e2]
      by_cases c1 : x[i] < y[i]
      · refine Ev.step (f := fun _ => some _) (fun k => ?_) (Ev.now _)
        simp only [slices_Compare_int64_int64.l0, cmpL]
        rw [if_pos (by omega), if_pos (by omega), if_pos (by omega), if_neg (by omega), if_pos (by omega), rd_get x i hlt, rd_get y i h, cmp1_f, if_pos c1, if_pos c1]; rfl
      · by_cases c2 : y[i] < x[i]
        · refine Ev.step (f := fun _ => some _) (fun k => ?_) (Ev.now _)
          simp only [slices_Compare_int64_int64.l0, cmpL]
          rw [if_pos (by omega), if_pos (by omega), if_pos (by omega), if_neg (by omega), if_pos (by omega), rd_get x i hlt, rd_get y i h, cmp1_f, if_neg c1, if_pos c2, if_neg c1, if_pos c2]; rfl
        · simp only [cmpL]
          rw [if_neg c1, if_neg c2]
          refine Ev.step (fun k => ?_) (ih (i + 1) (by omega) (by omega))
          simp only [slices_Compare_int64_int64.l0]
          rw [if_pos (by omega), if_pos (by omega), if_pos (by omega), if_neg (by omega), if_pos (by omega), rd_get x i hlt, rd_get y i h, cmp1_f, if_neg c1, if_neg c2, wrap_next hlt (by omega)]; rfl
    · refine Ev.step (f := fun _ => some _) (fun k => ?_) (Ev.now _)
      simp only [slices_Compare_int64_int64.l0]
      rw [if_pos (by omega), if_pos (by omega), if_pos (by omega), if_pos (by omega), List.drop_eq_getElem_cons hlt, List.drop_of_length_le (l := y) (by omega)]; rfl
theorem compare_tot (x y : List Int) (hx : x.length ≤ 9223372036854775807) : ∃ k, slices_Compare_int64_int64.f k x y = some (cmpL x y) := by
  have := (compare_l0 x y hx x.length 0 (by omega) (by omega)).rounds
  simpa [slices_Compare_int64_int64.f] using this
theorem compare_run (A0 : Option Addr) (c0 : Nat) (x : List Int) (A1 : Option Addr) (c1 : Nat) (y : List Int) (w : World) (hr0 : Kd.C (Kd.int .i64) w A0 x.length x) (hc0 : x.length ≤ c0) (hr1 : Kd.C (Kd.int .i64) w A1 y.length y) (hc1 : y.length ≤ c1) :
    Calls Tryd.prog 87 #[.slice A0 x.length c0, .slice A1 y.length c1] w fun e w' => e = .returned (.int .i64 (cmpL x y)) ∧ Drawn0 w w' := by
  obtain ⟨k, hk⟩ := compare_tot x y hr0.2.1
  exact slices_Compare_int64_int64.calls k A0 c0 x A1 c1 y _ w hr0 hc0 hr1 hc1 hk
/-! ### slices_IsSortedFunc_int64_int64: function 86 -/
-- EXTERNAL: by hand
-- slices_Compare_int64_int64
def sortedBy (c : List Int → List Int → Int) : List (List Int) → Bool
  | [] => true
  | [_] => true
  | a :: b :: r => !decide (c b a < 0) && sortedBy c (b :: r)
theorem sortedBy_get (c : List Int → List Int → Int) : ∀ (l : List (List Int)), sortedBy c l = true ↔ ∀ i x y, l[i]? = some x → l[i + 1]? = some y → ¬ c y x < 0
  | [] => by simp [sortedBy]
  | [_] => by
    simp only [sortedBy, true_iff]
    intro i x y h1 h2
    cases i <;> simp at h2
  | a :: b :: r => by
    have ih := sortedBy_get c (b :: r)
    simp only [sortedBy, Bool.and_eq_true, ih, Bool.not_eq_true', decide_eq_false_iff_not]
    constructor
    · rintro ⟨h1, h2⟩ i x y hx hy
      cases i with
      | zero =>
        simp only [List.getElem?_cons_zero, Option.some.injEq, List.getElem?_cons_succ] at hx hy
        subst hx hy
        exact h1
      | succ i => exact h2 i x y (by simpa using hx) (by simpa using hy)
    · intro h
      exact ⟨h 0 a b (by simp) (by simp), fun i x y hx hy => h (i + 1) x y (by simpa using hx) (by simpa using hy)⟩
set_option maxHeartbeats 4000000 in
set_option maxRecDepth 100000 in
theorem slices_IsSortedFunc_int64_int64.calls (A0 : Option Addr) (c0 : Nat) (l0 : List (List Int)) (w : World) (hr0 : Kd.C (Kd.slice 2 (Kd.int .i64)) w A0 l0.length l0) (hc0 : l0.length ≤ c0) :
    Calls Tryd.prog 86 #[.slice A0 l0.length c0, .func (.func 87) #[] #[]] w fun e w' => e = .returned (.bool (sortedBy cmpL l0)) ∧ Drawn0 w w' := by
  have eg : ∀ args w, (callFunc 87 args).run Tryd.prog w = .ok (.enter 87 args) w := enters_of Tryd.func87 (by kernel_rfl) rfl
  have HR := Aside0.mk hr0
  have hm := hr0.2.1
  clear hr0
  go_enter Tryd.func86, Tryd.ntmps86
  go_wp2_with fail
  go_loopg [5] l0.length (fun gg s5 wr => ∃ (i : Int), s5 = .int .i64 i ∧ -1 ≤ i ∧ i < l0.length ∧ i < gg + 0 ∧ Aside0 (∀ (j : Nat) (x y : List Int), i < (j : Int) + 1 → l0[j]? = some x → l0[j + 1]? = some y → ¬ cmpL y x < 0) ∧ Drawn0 w wr)
  case atStart =>
    refine ⟨(l0.length : Int) - 1, by go_num, by omega, by omega, by omega, ⟨fun j x y hj hx hy => ?_⟩, Drawn0.refl _⟩
    have := (List.getElem?_eq_some_iff.1 hy).1
    omega
  case round =>
    obtain ⟨i, rfl, h1, h2, h3, HA, ⟨m, rfl⟩⟩ := hrel
    by_cases hp : 0 < i
    · obtain ⟨n, hn1⟩ : ∃ n : Nat, i.toNat = n + 1 := ⟨i.toNat - 1, by omega⟩
      have hn : n + 1 < l0.length := by omega
      have en : (i - 1).toNat = n := by omega
      obtain ⟨ad, v1, rfl, hx1, hK1⟩ := Kd.C_one rfl HR.out (n + 1) hn rfl
      obtain ⟨ad', v0, hA, hx0, hK0⟩ := Kd.C_one rfl HR.out n (by omega) rfl
      cases hA
      obtain ⟨A1, k1, e1, hl1, hC1⟩ := hK1
      obtain ⟨A2, k2, e2, hl2, hC2⟩ := hK0
      simp only [List.cons.injEq, and_true] at e1 e2
      subst e1 e2
      have HX := Aside0.mk (List.getElem?_eq_getElem (show n < l0.length by omega))
      have HY := Aside0.mk (List.getElem?_eq_getElem hn)
      generalize l0[n] = x at *
      generalize l0[n + 1] = y at *
      have HC1 := Aside0.mk hC1
      have HC2 := Aside0.mk hC2
      have hcall := fun W hb => compare_run A1 k1 y A2 k2 x W (Kd.C_below HC1.out hb) hl1 (Kd.C_below HC2.out hb) hl2
      clear hC1 hC2
      have hn1' : i = (n : Int) + 1 := by omega
      rw [← hn1] at hx1
      rw [← en] at hx0
      have HN := Aside0.mk hn1'
      have hpb : decide (0 < i) = true := decide_eq_true hp
      have hi1 : 0 ≤ i := by omega
      obtain ⟨i1, e1⟩ : ∃ i1, i - 1 = i1 := ⟨_, rfl⟩
      have hi3 : IntKind.i64.wrap (i - 1) = i1 := by rw [IntKind.wrap_i64]; omega
      have hi4 : 0 ≤ i1 := by omega
      have hi5 : i1 < (l0.length : Int) := by omega
      rw [e1] at hx0
      have HE := Aside0.mk e1
      clear hn1 en hn1' hn e1
      by_cases hc : cmpL y x < 0
      · have HV := Aside0.mk (show sortedBy cmpL l0 = false from by
          rw [Bool.eq_false_iff]
          intro h
          exact (sortedBy_get cmpL l0).1 h n x y HX.out HY.out hc)
        have hcb : decide (cmpL y x < 0) = true := decide_eq_true hc
        go_wp2_with fail
        go_quiet ((go_at_call 87; refine (hcall _ (Drawn0.below ((Drawn0.refl w).step _))).mono ?_; rintro e w' ⟨rfl, ⟨nd, rfl⟩⟩; (try first | exact ⟨rfl, _, World.drewN_drewN _ _ _⟩ | exact ⟨rfl, _, Eq.trans (World.drewN_drewN _ _ _) (congrArg (World.drewN _) (Nat.add_assoc _ _ _))⟩)))
        go_wp2_with fail
        go_ret
        exact ⟨by rw [HV.out]; rfl, by repeat (first | exact Drawn0.refl _ | apply Drawn0.step)⟩
      · have hcb : decide (cmpL y x < 0) = false := decide_eq_false hc
        go_wp2_with fail
        go_quiet ((go_at_call 87; refine (hcall _ (Drawn0.below ((Drawn0.refl w).step _))).mono ?_; rintro e w' ⟨rfl, ⟨nd, rfl⟩⟩; (try first | exact ⟨rfl, _, World.drewN_drewN _ _ _⟩ | exact ⟨rfl, _, Eq.trans (World.drewN_drewN _ _ _) (congrArg (World.drewN _) (Nat.add_assoc _ _ _))⟩)))
        go_wp2_with fail
        have hn1' := HN.out
        have e1 := HE.out
        go_roundg (n + 1)
        case measure => omega
        case rel =>
          refine ⟨i1, rfl, by omega, by omega, by omega, ⟨fun j x' y' hj hx' hy' => ?_⟩, by repeat (first | exact Drawn0.refl _ | apply Drawn0.step)⟩
          by_cases e : j = n
          · subst e
            rw [HX.out] at hx'
            rw [HY.out] at hy'
            cases hx'; cases hy'
            exact hc
          · exact HA.out j x' y' (by omega) hx' hy'
    · have HV := Aside0.mk (show sortedBy cmpL l0 = true from (sortedBy_get cmpL l0).2 (fun j x y hx hy => HA.out j x y (by omega) hx hy))
      have hpb : decide (0 < i) = false := decide_eq_false hp
      go_wp2_with fail
      go_ret
      exact ⟨by rw [HV.out]; rfl, by repeat (first | exact Drawn0.refl _ | apply Drawn0.step)⟩
/-! ### impl_within: function 45 -/
def impl_within.f (a0 : Int) (a1 : Int) (a2 : Int) : Option (Bool) := if a1 ≤ a0 then (some (decide (a0 ≤ a2))) else (some false)
set_option maxHeartbeats 8000000 in
set_option maxRecDepth 100000 in
theorem impl_within.calls (a0 : Int) (a1 : Int) (a2 : Int) (r : Bool) (w : World) (h : impl_within.f a0 a1 a2 = some r) :
  Calls Tryd.prog 45 #[.int .i64 a0, .int .i64 a1, .int .i64 a2] w fun e w' => e = .returned (.bool r) ∧ Drawn0 w w' := by
 have H : (if a1 ≤ a0 then (some (decide (a0 ≤ a2))) else (some false)) = some r := h
 clear h
 by_cases c4 : a1 ≤ a0
 ·rw [if_pos c4] at H
  have c4b0 : decide (a1 ≤ a0) = true := decide_eq_true c4
  clear c4
  obtain rfl := Option.some.inj H
  go_enter Tryd.func45, Tryd.ntmps45
  go_wp2
  go_ret
  exact ⟨by first | rfl | (simp; done) | (simp [*]; done), by repeat (first | exact Drawn0.refl _ | apply Drawn0.step)⟩
 ·rw [if_neg c4] at H
  have c4b0 : decide (a1 ≤ a0) = false := decide_eq_false c4
  clear c4
  obtain rfl := Option.some.inj H
  go_enter Tryd.func45, Tryd.ntmps45
  go_wp2
  go_ret
  exact ⟨by first | rfl | (simp; done) | (simp [*]; done), by repeat (first | exact Drawn0.refl _ | apply Drawn0.step)⟩
/-- 'within', as a plain function, and what the machine does. -/
def inW (n a b : Int) : Bool := decide (a ≤ n) && decide (n ≤ b)
theorem within_inW (n a b : Int) : impl_within.f n a b = some (inW n a b) := by
  unfold impl_within.f inW
  by_cases h : a ≤ n <;> simp [h]
theorem within_run (n a b : Int) (w : World) : Calls Tryd.prog 45 #[.int .i64 n, .int .i64 a, .int .i64 b] w fun e w' => e = .returned (.bool (inW n a b)) ∧ Drawn0 w w' :=
  impl_within.calls n a b _ w (within_inW n a b)
/-! ### impl_isRising: function 85 -/
def impl_isRising.l0 : Nat → List Int → Int → Int → List Int → Int → Int → Option (Bool)
 | 0, _, _, _, _, _, _ => none
 | k + 1, x0, x1, x2, x9, x10, x11 => if x11 < x10 then (if 0 ≤ x11 then (if x11 < (x9.length : Int) then ((impl_within.f (rd x9 x11) x1 x2).bind fun t170 => (if t170 = true then (if x11 > 0 then (if 0 ≤ (wrap64 (x11 - 1)) then (if (wrap64 (x11 - 1)) < (x0.length : Int) then (if (rd x9 x11) ≤ (rd x0 (wrap64 (x11 - 1))) then (some false) else (impl_isRising.l0 k x0 x1 x2 x9 x10 (wrap64 (x11 + 1)))) else (none)) else (none)) else (impl_isRising.l0 k x0 x1 x2 x9 x10 (wrap64 (x11 + 1)))) else (some false))) else (none)) else (none)) else (some true)
def impl_isRising.f (k : Nat) (l0 : List Int) (a1 : Int) (a2 : Int) : Option (Bool) := impl_isRising.l0 k l0 a1 a2 l0 (l0.length : Int) 0
set_option maxHeartbeats 8000000 in
set_option maxRecDepth 100000 in
theorem impl_isRising.calls (k : Nat) (A0 : Option Addr) (c0 : Nat) (l0 : List Int) (a1 : Int) (a2 : Int) (r : Bool) (w : World) (hr0 : Kd.C (Kd.int .i64) w A0 l0.length l0) (hc0 : l0.length ≤ c0) (h : impl_isRising.f k l0 a1 a2 = some r) :
  Calls Tryd.prog 85 #[.slice A0 l0.length c0, .int .i64 a1, .int .i64 a2] w fun e w' => e = .returned (.bool r) ∧ Drawn0 w w' := by
 have HR0 := Aside0.mk hr0
 have HC0 := Aside0.mk hc0
 clear hr0 hc0
 have H : (impl_isRising.l0 k l0 a1 a2 l0 (l0.length : Int) 0) = some r := h
 clear h
 have H' := Aside0.mk H
 clear H
 go_enter Tryd.func85, Tryd.ntmps85
 go_wp2
 go_loopg [11] k (fun kq v11 w' => ∃ (x11_1 : Int), v11 = .int .i64 x11_1 ∧ Aside0 (impl_isRising.l0 kq l0 a1 a2 l0 (l0.length : Int) x11_1 = some r) ∧ Aside0 (kq ≤ k) ∧ Drawn0 w w')
 case atStart => exact ⟨(0), (by first | rfl | (simp; done) | (simp [*]; done)), H', ⟨Nat.le_refl _⟩, by repeat (first | exact Drawn0.refl _ | apply Drawn0.step)⟩
 case round =>
  clear H'
  (try clear p2)
  obtain ⟨x11_1, rfl, HA, HK1, ⟨m1, rfl⟩⟩ := hrel
  cases gk with
  | zero => exact absurd HA.out (by simp [impl_isRising.l0])
  | succ k1 =>
   have H := HA.out
   clear HA
   simp only [impl_isRising.l0] at H
   by_cases c4 : x11_1 < (l0.length : Int)
   ·rw [if_pos c4] at H
    have c4b0 : decide (x11_1 < (l0.length : Int)) = true := decide_eq_true c4
    clear c4
    by_cases c5 : 0 ≤ x11_1
    ·rw [if_pos c5] at H
     have c5b0 : decide (0 ≤ x11_1) = true := decide_eq_true c5
     clear c5
     by_cases c6 : x11_1 < (l0.length : Int)
     ·rw [if_pos c6] at H
      have c6b0 : decide (x11_1 < (l0.length : Int)) = true := decide_eq_true c6
      clear c6
      replace H := Option.bind_eq_some_iff.mp H
      obtain ⟨t170, A70, H⟩ := H
      replace H : (if t170 = true then (if x11_1 > 0 then (if 0 ≤ (wrap64 (x11_1 - 1)) then (if (wrap64 (x11_1 - 1)) < (l0.length : Int) then (if (rd l0 x11_1) ≤ (rd l0 (wrap64 (x11_1 - 1))) then (some false) else (impl_isRising.l0 k1 l0 a1 a2 l0 (l0.length : Int) (wrap64 (x11_1 + 1)))) else (none)) else (none)) else (impl_isRising.l0 k1 l0 a1 a2 l0 (l0.length : Int) (wrap64 (x11_1 + 1)))) else (some false)) = some r := H
      have A7 := Aside0.mk A70
      clear A70
      by_cases c8 : t170 = true
      ·subst c8
       have H1 : (if x11_1 > 0 then (if 0 ≤ (wrap64 (x11_1 - 1)) then (if (wrap64 (x11_1 - 1)) < (l0.length : Int) then (if (rd l0 x11_1) ≤ (rd l0 (wrap64 (x11_1 - 1))) then (some false) else (impl_isRising.l0 k1 l0 a1 a2 l0 (l0.length : Int) (wrap64 (x11_1 + 1)))) else (none)) else (none)) else (impl_isRising.l0 k1 l0 a1 a2 l0 (l0.length : Int) (wrap64 (x11_1 + 1)))) = some r := by rw [if_pos rfl] at H; exact H
       clear H
       have H := H1
       clear H1
       by_cases c9 : x11_1 > 0
       ·rw [if_pos c9] at H
        have c9b0 : decide (0 < x11_1) = true := decide_eq_true c9
        clear c9
        obtain ⟨ji10, hji10⟩ : ∃ j_ : Int, (wrap64 (x11_1 - 1)) = j_ := ⟨_, rfl⟩
        replace H : (if 0 ≤ (ji10) then (if (ji10) < (l0.length : Int) then (if (rd l0 x11_1) ≤ (rd l0 (ji10)) then (some false) else (impl_isRising.l0 k1 l0 a1 a2 l0 (l0.length : Int) (wrap64 (x11_1 + 1)))) else (none)) else (none)) = some r := by first | (rw [hji10] at H; exact H) | (simp only [hji10] at H ⊢; exact H)
        (try rw [hji10] at A7)
        have hji10w : (IntKind.i64.wrap (x11_1 - 1)) = ji10 := (i64_w _).trans hji10
        by_cases c11 : 0 ≤ (ji10)
        ·rw [if_pos c11] at H
         have c11b0 : decide (0 ≤ (ji10)) = true := decide_eq_true c11
         clear c11
         by_cases c12 : (ji10) < (l0.length : Int)
         ·rw [if_pos c12] at H
          have c12b0 : decide ((ji10) < (l0.length : Int)) = true := decide_eq_true c12
          clear c12
          by_cases c13 : (rd l0 x11_1) ≤ (rd l0 (ji10))
          ·rw [if_pos c13] at H
           have c13b0 : decide ((rd l0 x11_1) ≤ (rd l0 (ji10))) = true := decide_eq_true c13
           clear c13
           obtain rfl := Option.some.inj H
           have p169 : 0 ≤ (x11_1 : Int) := oda
           have q169 : x11_1 < (l0.length : Int) := oda
           obtain ⟨ad169, e169, hx169_0⟩ := Kd.at_int HR0.out x11_1 p169 q169
           cases e169
           replace p169 := eq_true p169
           replace q169 := eq_true q169
           go_wp2_with (first | ((with_reducible refine gate_callee (f := 45) rfl ?_); refine goesA_ (some 19) rfl rfl Tryd.func45 (by kernel_rfl) rfl #[.int .i64 (rd l0 x11_1), .int .i64 a1, .int .i64 a2] rfl ?_; (with_reducible refine (impl_within.calls (rd l0 x11_1) a1 a2 true _ A7.out).mono ?_); rintro e w' ⟨rfl, ⟨nd, rfl⟩⟩; refine ⟨_, rfl, ?_⟩; have p171 : 0 ≤ ((ji10) : Int) := oda; have q171 : (ji10) < (l0.length : Int) := oda; obtain ⟨ad171, e171, hx171_0⟩ := Kd.at_int HR0.out (ji10) p171 q171; obtain rfl : ad169 = ad171 := (by injection e171); replace p171 := eq_true p171; replace q171 := eq_true q171))
           go_ret
           exact ⟨by first | rfl | (simp; done) | (simp only [← hji10] <;> (first | rfl | simp)) | (simp [*]; done), by repeat (first | exact Drawn0.refl _ | apply Drawn0.step)⟩
          ·rw [if_neg c13] at H
           have c13b0 : decide ((rd l0 x11_1) ≤ (rd l0 (ji10))) = false := decide_eq_false c13
           clear c13
           have H' := Aside0.mk H
           clear H
           have p169 : 0 ≤ (x11_1 : Int) := oda
           have q169 : x11_1 < (l0.length : Int) := oda
           obtain ⟨ad169, e169, hx169_0⟩ := Kd.at_int HR0.out x11_1 p169 q169
           cases e169
           replace p169 := eq_true p169
           replace q169 := eq_true q169
           go_wp2_with (first | ((with_reducible refine gate_callee (f := 45) rfl ?_); refine goesA_ (some 19) rfl rfl Tryd.func45 (by kernel_rfl) rfl #[.int .i64 (rd l0 x11_1), .int .i64 a1, .int .i64 a2] rfl ?_; (with_reducible refine (impl_within.calls (rd l0 x11_1) a1 a2 true _ A7.out).mono ?_); rintro e w' ⟨rfl, ⟨nd, rfl⟩⟩; refine ⟨_, rfl, ?_⟩; have p171 : 0 ≤ ((ji10) : Int) := oda; have q171 : (ji10) < (l0.length : Int) := oda; obtain ⟨ad171, e171, hx171_0⟩ := Kd.at_int HR0.out (ji10) p171 q171; obtain rfl : ad169 = ad171 := (by injection e171); replace p171 := eq_true p171; replace q171 := eq_true q171))
           go_roundg k1
           case measure => have := HK1.out; omega
           case rel => exact ⟨(wrap64 (x11_1 + 1)), (by first | rfl | (simp; done) | (simp [*]; done)), H', ⟨by have := HK1.out; omega⟩, by repeat (first | exact Drawn0.refl _ | apply Drawn0.step)⟩
         ·rw [if_neg c12] at H
          exact absurd H (by simp)
        ·rw [if_neg c11] at H
         exact absurd H (by simp)
       ·rw [if_neg c9] at H
        have c9b0 : decide (0 < x11_1) = false := decide_eq_false c9
        clear c9
        have H' := Aside0.mk H
        clear H
        have p169 : 0 ≤ (x11_1 : Int) := oda
        have q169 : x11_1 < (l0.length : Int) := oda
        obtain ⟨ad169, e169, hx169_0⟩ := Kd.at_int HR0.out x11_1 p169 q169
        cases e169
        replace p169 := eq_true p169
        replace q169 := eq_true q169
        go_wp2_with (first | ((with_reducible refine gate_callee (f := 45) rfl ?_); refine goesA_ (some 19) rfl rfl Tryd.func45 (by kernel_rfl) rfl #[.int .i64 (rd l0 x11_1), .int .i64 a1, .int .i64 a2] rfl ?_; (with_reducible refine (impl_within.calls (rd l0 x11_1) a1 a2 true _ A7.out).mono ?_); rintro e w' ⟨rfl, ⟨nd, rfl⟩⟩; refine ⟨_, rfl, ?_⟩))
        go_roundg k1
        case measure => have := HK1.out; omega
        case rel => exact ⟨(wrap64 (x11_1 + 1)), (by first | rfl | (simp; done) | (simp [*]; done)), H', ⟨by have := HK1.out; omega⟩, by repeat (first | exact Drawn0.refl _ | apply Drawn0.step)⟩
      ·replace c8 := Bool.eq_false_iff.mpr c8
       subst c8
       have H1 : (some false) = some r := by rw [if_neg (show ¬ (false = true) by decide)] at H; exact H
       clear H
       have H := H1
       clear H1
       obtain rfl := Option.some.inj H
       have p169 : 0 ≤ (x11_1 : Int) := oda
       have q169 : x11_1 < (l0.length : Int) := oda
       obtain ⟨ad169, e169, hx169_0⟩ := Kd.at_int HR0.out x11_1 p169 q169
       cases e169
       replace p169 := eq_true p169
       replace q169 := eq_true q169
       go_wp2_with (first | ((with_reducible refine gate_callee (f := 45) rfl ?_); refine goesA_ (some 19) rfl rfl Tryd.func45 (by kernel_rfl) rfl #[.int .i64 (rd l0 x11_1), .int .i64 a1, .int .i64 a2] rfl ?_; (with_reducible refine (impl_within.calls (rd l0 x11_1) a1 a2 false _ A7.out).mono ?_); rintro e w' ⟨rfl, ⟨nd, rfl⟩⟩; refine ⟨_, rfl, ?_⟩))
       go_ret
       exact ⟨by first | rfl | (simp; done) | (simp [*]; done), by repeat (first | exact Drawn0.refl _ | apply Drawn0.step)⟩
     ·rw [if_neg c6] at H
      exact absurd H (by simp)
    ·rw [if_neg c5] at H
     exact absurd H (by simp)
   ·rw [if_neg c4] at H
    have c4b0 : decide (x11_1 < (l0.length : Int)) = false := decide_eq_false c4
    clear c4
    obtain rfl := Option.some.inj H
    go_wp2
    go_ret
    exact ⟨by first | rfl | (simp; done) | (simp [*]; done), by repeat (first | exact Drawn0.refl _ | apply Drawn0.step)⟩
/-- isRising as a plain function, and what the machine does. -/
def risingFrom (lo hi : Int) : Option Int → List Int → Bool
  | _, [] => true
  | none, x :: r => inW x lo hi && risingFrom lo hi (some x) r
  | some p, x :: r => inW x lo hi && !decide (x ≤ p) && risingFrom lo hi (some x) r
def rising (l : List Int) (lo hi : Int) : Bool := risingFrom lo hi none l
def lastOf (x : List Int) (i : Nat) : Option Int := if i = 0 then none else some (x.getD (i - 1) 0)
theorem rising_l0 (x : List Int) (lo ub : Int) (hx : x.length ≤ 9223372036854775807) : ∀ (d i : Nat), i + d = x.length → Ev (fun k => impl_isRising.l0 k x lo ub x (x.length : Int) i) (risingFrom lo ub (lastOf x i) (x.drop i)) := by
  intro d
  induction d with
  | zero =>
    intro i hi
    refine Ev.step (f := fun _ => some _) (fun k => ?_) (Ev.now _)
    simp only [impl_isRising.l0]
    rw [if_neg (by omega), List.drop_of_length_le (l := x) (by omega)]
    cases lastOf x i <;> rfl
  | succ d ih =>
    intro i hi
    have hlt : i < x.length := by omega
    have e1 : x.drop i = x[i] :: x.drop (i + 1) := List.drop_eq_getElem_cons hlt
    have el : lastOf x (i + 1) = some x[i] := by
      unfold lastOf
      rw [if_neg (by omega), Nat.add_sub_cancel, List.getD_eq_getElem?_getD, List.getElem?_eq_getElem hlt]; rfl
    have ih1 := ih (i + 1) (by omega)
    rw [el] at ih1
    rw [e1]
    by_cases hw : inW x[i] lo ub = true
    · by_cases h0 : i = 0
      · subst h0
        have er : risingFrom lo ub (lastOf x 0) (x[0] :: x.drop 1) = risingFrom lo ub (some x[0]) (x.drop 1) := by
          show (inW x[0] lo ub && _) = _
          rw [hw]; rfl
        rw [er]
        refine Ev.step (fun k => ?_) ih1
        simp only [impl_isRising.l0]
        rw [if_pos (by omega), if_pos (by omega), if_pos (by omega), rd_get x 0 hlt, within_inW, hw, Option.bind_some, if_pos rfl, if_neg (by omega), wrap_next hlt (by omega)]
      · have hp : i - 1 < x.length := by omega
        have el0 : lastOf x i = some x[i - 1] := by
          unfold lastOf
          rw [if_neg h0, List.getD_eq_getElem?_getD, List.getElem?_eq_getElem hp]; rfl
        have ew : wrap64 ((i : Int) - 1) = ((i - 1 : Nat) : Int) := by unfold wrap64; omega
        rw [el0]
        by_cases hc : x[i] ≤ x[i - 1]
        · have er : risingFrom lo ub (some x[i - 1]) (x[i] :: x.drop (i + 1)) = false := by
            show (inW x[i] lo ub && _ && _) = _
            simp [hc]
          rw [er]
          refine Ev.step (f := fun _ => some _) (fun k => ?_) (Ev.now _)
          simp only [impl_isRising.l0]
          rw [if_pos (by omega), if_pos (by omega), if_pos (by omega), rd_get x i hlt, within_inW, hw, Option.bind_some, if_pos rfl, if_pos (by omega), ew, if_pos (by omega), if_pos (by omega), rd_get x (i - 1) hp, if_pos hc]
        · have er : risingFrom lo ub (some x[i - 1]) (x[i] :: x.drop (i + 1)) = risingFrom lo ub (some x[i]) (x.drop (i + 1)) := by
            show (inW x[i] lo ub && _ && _) = _
            simp [hc, hw]
          rw [er]
          refine Ev.step (fun k => ?_) ih1
          simp only [impl_isRising.l0]
          rw [if_pos (by omega), if_pos (by omega), if_pos (by omega), rd_get x i hlt, within_inW, hw, Option.bind_some, if_pos rfl, if_pos (by omega), ew, if_pos (by omega), if_pos (by omega), rd_get x (i - 1) hp, if_neg hc, wrap_next hlt (by omega)]
    · have er : risingFrom lo ub (lastOf x i) (x[i] :: x.drop (i + 1)) = false := by
        cases lastOf x i <;> simp [risingFrom, hw]
      rw [er]
      refine Ev.step (f := fun _ => some _) (fun k => ?_) (Ev.now _)
      simp only [impl_isRising.l0]
      rw [if_pos (by omega), if_pos (by omega), if_pos (by omega), rd_get x i hlt, within_inW, Option.bind_some, if_neg (by simpa using hw)]
theorem rising_ev (x : List Int) (lo hi : Int) (hx : x.length ≤ 9223372036854775807) : Ev (fun k => impl_isRising.f k x lo hi) (rising x lo hi) := by
  have := rising_l0 x lo hi hx x.length 0 (by omega)
  simpa [impl_isRising.f, rising, lastOf] using this
theorem rising_run (A0 : Option Addr) (c0 : Nat) (l0 : List Int) (lo hi : Int) (w : World) (hr0 : Kd.C (Kd.int .i64) w A0 l0.length l0) (hc0 : l0.length ≤ c0) :
    Calls Tryd.prog 85 #[.slice A0 l0.length c0, .int .i64 lo, .int .i64 hi] w fun e w' => e = .returned (.bool (rising l0 lo hi)) ∧ Drawn0 w w' := by
  obtain ⟨k, hk⟩ := (rising_ev l0 lo hi hr0.2.1).rounds
  exact impl_isRising.calls k A0 c0 l0 lo hi _ w hr0 hc0 hk
/-- What a net is, as a plain function. -/
def edgeBad (p : Int) (e : List Int) : Bool := !decide (e.length = 2) || !rising e 0 (wrap64 (p - 1))
/-! ### impl_IsNet: function 60 -/
-- EXTERNAL: by hand
-- impl_isRising slices_Compare_int64_int64 slices_IsSortedFunc_int64_int64
def isNetV (p : Int) (l : List (List Int)) : Bool := inW p 2 8 && !decide ((l.length : Int) > 10) && !l.any (edgeBad p) && sortedBy cmpL l
def impl_IsNet.f (a0_0 : Int) (l0_1 : List (List Int)) : Option Bool := some (isNetV a0_0 l0_1)
set_option maxHeartbeats 4000000 in
set_option maxRecDepth 100000 in
theorem isNetPred (B : Nat) (p : Int) (s : Value) (w : World) (hbox : w.heap[B]? = some (.cells #[.int .i64 p, s] 28 (0, 0))) :
    PredK Tryd.prog 84 #[.pointer (some ⟨B, 0, none⟩)] (Kd.slice 2 (Kd.int .i64)) (fun _ => True) (edgeBad p) w := by
  intro W x v _ hK hb
  obtain ⟨A, c, hv, hl, hC⟩ := hK
  simp only [List.cons.injEq, and_true] at hv
  subst hv
  show Calls Tryd.prog 84 #[.slice A x.length c, .pointer (some ⟨B, 0, none⟩)] W _
  have hc0 : W.cell? ⟨B, 0, none⟩ = some (.int .i64 p) := (blk_cell (blk_below hbox hb) 0).trans rfl
  have HR := fun W' hb' => rising_run A c x 0 (wrap64 (p - 1)) W' (Kd.C_below hC hb') hl
  clear hC hbox hb
  unfold edgeBad
  have hu := Tryd.underlying28
  by_cases h2 : x.length = 2
  · have hb2 : (x.length : Int) = 2 := by omega
    have hne : ((x.length : Int) != 2) = false := bne_eq_false_iff_eq.mpr hb2
    have hne2 : (x.length == 2) = true := beq_iff_eq.mpr h2
    have HD := Aside0.mk (decide_eq_true h2)
    have HB := Aside0.mk (Below.refl W.heap.size W)
    clear h2 hb2
    generalize rising x 0 (wrap64 (p - 1)) = b at HR ⊢
    go_enter Tryd.func84, Tryd.ntmps84
    go_wp2_with fail
    refine (HR _ HB.out).mono ?_; rintro e w1 ⟨rfl, hd⟩; have HB1 := Aside0.mk (below_step HB.out hd.below); clear hd
    go_wp2_with fail
    go_ret
    exact ⟨by rw [HD.out]; rfl, HB1.out⟩
  · have hb2 : ¬ (x.length : Int) = 2 := by omega
    have hne : ((x.length : Int) != 2) = true := bne_iff_ne.mpr hb2
    have hne2 : (x.length == 2) = false := beq_eq_false_iff_ne.mpr h2
    have HD := Aside0.mk (decide_eq_false h2)
    clear h2 hb2 HR
    generalize rising x 0 (wrap64 (p - 1)) = b
    go_enter Tryd.func84, Tryd.ntmps84
    go_wp2_with fail
    go_ret
    exact ⟨by rw [HD.out]; rfl, Below.refl _ _⟩
set_option maxHeartbeats 4000000 in
set_option maxRecDepth 100000 in
theorem impl_IsNet.calls (a0_0 : Int) (A0_1 : Option Addr) (c0_1 : Nat) (l0_1 : List (List Int)) (r : Bool) (w : World) (hr0_1 : Kd.C (Kd.slice 2 (Kd.int .i64)) w A0_1 l0_1.length l0_1) (hc0_1 : l0_1.length ≤ c0_1) (h : impl_IsNet.f a0_0 l0_1 = some r) :
    Calls Tryd.prog 60 #[.agg #[.int .i64 a0_0, .slice A0_1 l0_1.length c0_1]] w fun e w' => e = .returned (.bool r) ∧ Below w.heap.size w w' := by
  have eg : ∀ args w, (callFunc 84 args).run Tryd.prog w = .ok (.enter 84 args) w := enters_of Tryd.func84 (by kernel_rfl) rfl
  obtain rfl := Option.some.inj h
  clear h
  have HR := Aside0.mk hr0_1
  have hm := hr0_1.2.1
  clear hr0_1
  have hu := Tryd.underlying28
  have HI := fun W hb => slices_IsSortedFunc_int64_int64.calls A0_1 c0_1 l0_1 W (Kd.C_below HR.out hb) hc0_1
  have HC := fun (g : Nat) W (hbox : W.heap[g]? = some (.cells #[.int .i64 a0_0, .slice A0_1 l0_1.length c0_1] 28 (0, 0))) hb => slices_ContainsFunc_int64_int64_83.calls 84 #[.pointer (some ⟨g, 0, none⟩)] (fun _ => True) (edgeBad a0_0) eg A0_1 c0_1 l0_1 W (isNetPred g a0_0 _ W hbox) (fun _ _ => trivial) (Kd.C_below HR.out hb) hm
  have HB0 := Aside0.mk (Below.refl w.heap.size w)
  unfold isNetV
  generalize hb1 : inW a0_0 2 8 = b1 at *
  generalize hb3 : l0_1.any (edgeBad a0_0) = b3 at *
  generalize hb4 : sortedBy cmpL l0_1 = b4 at *
  have HW := Aside0.mk hb1
  clear hb1 hb3 hb4
  cases b1 with
  | false =>
    clear HI HC
    go_enter Tryd.func60, Tryd.ntmps60
    go_wp2_with (first | ((with_reducible refine gate_dst (N := 1) rfl ?_); refine box_event ?hg (N := 1) ?hd (cs := #[.int .i64 a0_0, .slice A0_1 l0_1.length c0_1]) (t := 28) ?hr ?_; (case hd => rfl); (case hg => rfl); (case hr => first | (go_simp; done) | (go_simp; rfl)); intro gb hgb w1 hbox hb; have HB1 := Aside0.mk (below_step HB0.out hb); have hc0 := (blk_cell hbox 0).trans rfl; have hc1 := (blk_cell hbox 1).trans rfl; have HX := Aside0.mk hbox; clear hb hbox hgb))
    refine (within_run _ _ _ _).mono ?_; rintro e w2 ⟨rfl, hd⟩; have HB2 := Aside0.mk (below_step HB1.out hd.below); clear hd
    rw [HW.out]
    go_wp2_with fail
    go_ret
    exact ⟨rfl, HB2.out⟩
  | true =>
    by_cases h10 : (l0_1.length : Int) > 10
    · have h10b : decide ((10 : Int) < (l0_1.length : Int)) = true := decide_eq_true h10
      have h10c : decide (10 < l0_1.length) = true := decide_eq_true (by omega)
      have HT := Aside0.mk (decide_eq_true h10)
      clear HI HC h10
      go_enter Tryd.func60, Tryd.ntmps60
      go_wp2_with (first | ((with_reducible refine gate_dst (N := 1) rfl ?_); refine box_event ?hg (N := 1) ?hd (cs := #[.int .i64 a0_0, .slice A0_1 l0_1.length c0_1]) (t := 28) ?hr ?_; (case hd => rfl); (case hg => rfl); (case hr => first | (go_simp; done) | (go_simp; rfl)); intro gb hgb w1 hbox hb; have HB1 := Aside0.mk (below_step HB0.out hb); have hc0 : w1.cell? ⟨gb, 0, none⟩ = some (.int .i64 a0_0) := (blk_cell hbox 0).trans rfl; have hc1 : w1.cell? ⟨gb, 1, none⟩ = some (.slice A0_1 l0_1.length c0_1) := (blk_cell hbox 1).trans rfl; have HX := Aside0.mk hbox; clear hb hbox hgb))
      refine (within_run _ _ _ _).mono ?_; rintro e w2 ⟨rfl, hd⟩; have HBd := Aside0.mk hd.below; have HB2 := Aside0.mk (below_step HB1.out hd.below); clear hd
      have hc2 : w2.cell? ⟨gb, 1, none⟩ = some (.slice A0_1 l0_1.length c0_1) := (HBd.out.cell (World.block_lt_of_cell? w1 _ hc1)).trans hc1; have HX2 := Aside0.mk (blk_below HX.out HBd.out)
      rw [HW.out]
      go_wp2_with fail
      go_ret
      exact ⟨by rw [HT.out]; rfl, HB2.out⟩
    · have h10b : decide ((10 : Int) < (l0_1.length : Int)) = false := decide_eq_false h10
      have h10c : decide (10 < l0_1.length) = false := decide_eq_false (by omega)
      have HT := Aside0.mk (decide_eq_false h10)
      clear h10
      cases b3 with
      | true =>
        clear HI
        go_enter Tryd.func60, Tryd.ntmps60
        go_wp2_with (first | ((with_reducible refine gate_dst (N := 1) rfl ?_); refine box_event ?hg (N := 1) ?hd (cs := #[.int .i64 a0_0, .slice A0_1 l0_1.length c0_1]) (t := 28) ?hr ?_; (case hd => rfl); (case hg => rfl); (case hr => first | (go_simp; done) | (go_simp; rfl)); intro gb hgb w1 hbox hb; have HB1 := Aside0.mk (below_step HB0.out hb); have hc0 : w1.cell? ⟨gb, 0, none⟩ = some (.int .i64 a0_0) := (blk_cell hbox 0).trans rfl; have hc1 : w1.cell? ⟨gb, 1, none⟩ = some (.slice A0_1 l0_1.length c0_1) := (blk_cell hbox 1).trans rfl; have HX := Aside0.mk hbox; clear hb hbox hgb))
        refine (within_run _ _ _ _).mono ?_; rintro e w2 ⟨rfl, hd⟩; have HBd := Aside0.mk hd.below; have HB2 := Aside0.mk (below_step HB1.out hd.below); clear hd
        have hc2 : w2.cell? ⟨gb, 1, none⟩ = some (.slice A0_1 l0_1.length c0_1) := (HBd.out.cell (World.block_lt_of_cell? w1 _ hc1)).trans hc1; have HX2 := Aside0.mk (blk_below HX.out HBd.out)
        rw [HW.out]
        go_wp2_with fail
        refine (HC gb _ HX2.out HB2.out).mono ?_; rintro e w3 ⟨rfl, hd⟩; have HB3 := Aside0.mk (below_step HB2.out hd); clear hd
        go_wp2_with fail
        go_ret
        exact ⟨by rw [HT.out]; rfl, HB3.out⟩
      | false =>
        go_enter Tryd.func60, Tryd.ntmps60
        go_wp2_with (first | ((with_reducible refine gate_dst (N := 1) rfl ?_); refine box_event ?hg (N := 1) ?hd (cs := #[.int .i64 a0_0, .slice A0_1 l0_1.length c0_1]) (t := 28) ?hr ?_; (case hd => rfl); (case hg => rfl); (case hr => first | (go_simp; done) | (go_simp; rfl)); intro gb hgb w1 hbox hb; have HB1 := Aside0.mk (below_step HB0.out hb); have hc0 : w1.cell? ⟨gb, 0, none⟩ = some (.int .i64 a0_0) := (blk_cell hbox 0).trans rfl; have hc1 : w1.cell? ⟨gb, 1, none⟩ = some (.slice A0_1 l0_1.length c0_1) := (blk_cell hbox 1).trans rfl; have HX := Aside0.mk hbox; clear hb hbox hgb))
        refine (within_run _ _ _ _).mono ?_; rintro e w2 ⟨rfl, hd⟩; have HBd := Aside0.mk hd.below; have HB2 := Aside0.mk (below_step HB1.out hd.below); clear hd
        have hc2 : w2.cell? ⟨gb, 1, none⟩ = some (.slice A0_1 l0_1.length c0_1) := (HBd.out.cell (World.block_lt_of_cell? w1 _ hc1)).trans hc1; have HX2 := Aside0.mk (blk_below HX.out HBd.out)
        rw [HW.out]
        go_wp2_with fail
        refine (HC gb _ HX2.out HB2.out).mono ?_; rintro e w3 ⟨rfl, hd⟩; have HB3 := Aside0.mk (below_step HB2.out hd)
        have hc3 : w3.cell? ⟨gb, 1, none⟩ = some (.slice A0_1 l0_1.length c0_1) := (hd.cell (World.block_lt_of_cell? w2 _ hc2)).trans hc2
        clear hd
        go_wp2_with fail
        refine (HI _ HB3.out).mono ?_; rintro e w4 ⟨rfl, hd⟩; have HB4 := Aside0.mk (below_step HB3.out hd.below); clear hd
        go_wp2_with fail
        go_ret
        exact ⟨by rw [HT.out]; cases b4 <;> rfl, HB4.out⟩
/-! ### impl_stateOfCode: function 35 -/
def impl_stateOfCode.f (k : Nat) (a0_0 : Int) (l0_1 : List (List Int)) (a1 : ByteArray) : Option (Int) := if (a1.size : Int) = (l0_1.length : Int) then ((strings_Trim.f a1 (⟨#[46, 115, 99]⟩ : ByteArray)).bind fun t178 => ((impl_IsNet.f a0_0 l0_1).bind fun t179 => ((impl_first.f k (([(⟨t179, 1⟩ : S71), (⟨(t178.toList == ([] : List UInt8)), 2⟩ : S71)] : List (S71)))).bind fun t183 => (some t183)))) else ((impl_IsNet.f a0_0 l0_1).bind fun t184 => ((impl_first.f k (([(⟨t184, 1⟩ : S71), (⟨false, 2⟩ : S71)] : List (S71)))).bind fun t188 => (some t188)))
set_option maxHeartbeats 8000000 in
set_option maxRecDepth 100000 in
theorem impl_stateOfCode.calls (k : Nat) (a0_0 : Int) (A0_1 : Option Addr) (c0_1 : Nat) (l0_1 : List (List Int)) (a1 : ByteArray) (r : Int) (w : World) (hr0_1 : Kd.C (Kd.slice 2 (Kd.int .i64)) w A0_1 l0_1.length l0_1) (hc0_1 : l0_1.length ≤ c0_1) (h : impl_stateOfCode.f k a0_0 l0_1 a1 = some r) :
  Calls Tryd.prog 35 #[.agg #[.int .i64 a0_0, .slice A0_1 l0_1.length c0_1], .string a1] w fun e w' => e = .returned (.int .i64 r) ∧ Below w.heap.size w w' := by
 have hu28 := Tryd.underlying28
 have hu71 := Tryd.underlying71
 have HR0_1 := Aside0.mk hr0_1
 have HC0_1 := Aside0.mk hc0_1
 clear hr0_1 hc0_1
 have HB := Aside0.mk (Below.refl w.heap.size w)
 have H : (if (a1.size : Int) = (l0_1.length : Int) then ((strings_Trim.f a1 (⟨#[46, 115, 99]⟩ : ByteArray)).bind fun t178 => ((impl_IsNet.f a0_0 l0_1).bind fun t179 => ((impl_first.f k (([(⟨t179, 1⟩ : S71), (⟨(t178.toList == ([] : List UInt8)), 2⟩ : S71)] : List (S71)))).bind fun t183 => (some t183)))) else ((impl_IsNet.f a0_0 l0_1).bind fun t184 => ((impl_first.f k (([(⟨t184, 1⟩ : S71), (⟨false, 2⟩ : S71)] : List (S71)))).bind fun t188 => (some t188)))) = some r := h
 clear h
 by_cases c3 : (a1.size : Int) = (l0_1.length : Int)
 ·rw [if_pos c3] at H
  have c3b0 : ((a1.size : Int) == (l0_1.length : Int)) = true := beq_iff_eq.mpr c3
  have c3b1 : ((a1.size : Int) != (l0_1.length : Int)) = false := bne_eq_false_iff_eq.mpr c3
  have c3b2 : (a1.size == l0_1.length) = true := by first | simpa using c3 | (simp at c3 ⊢; omega)
  clear c3
  replace H := Option.bind_eq_some_iff.mp H
  obtain ⟨t178, A40, H⟩ := H
  replace H : ((impl_IsNet.f a0_0 l0_1).bind fun t179 => ((impl_first.f k (([(⟨t179, 1⟩ : S71), (⟨(t178.toList == ([] : List UInt8)), 2⟩ : S71)] : List (S71)))).bind fun t183 => (some t183))) = some r := H
  have A4 := Aside0.mk A40
  clear A40
  replace H := Option.bind_eq_some_iff.mp H
  obtain ⟨t179, A50, H⟩ := H
  replace H : ((impl_first.f k (([(⟨t179, 1⟩ : S71), (⟨(t178.toList == ([] : List UInt8)), 2⟩ : S71)] : List (S71)))).bind fun t183 => (some t183)) = some r := H
  have A5 := Aside0.mk A50
  clear A50
  obtain ⟨y180, hy180⟩ : ∃ y_ : List (S71), y_ = (([(⟨t179, 1⟩ : S71), (⟨(t178.toList == ([] : List UInt8)), 2⟩ : S71)] : List (S71))) := ⟨_, rfl⟩
  replace H : ((impl_first.f k y180).bind fun t183 => (some t183)) = some r := by first | (rw [hy180]; with_reducible exact H) | (have H2_ := (Option.bind_some _ _).symm.trans H; rw [hy180]; with_reducible exact H2_) | (have H2_ := (Option.bind_some _ _).symm.trans H; with_reducible exact H2_) | with_reducible exact H | (rw [hy180]; exact H) | exact H
  have Ny180 := Aside0.mk hy180
  clear hy180
  replace H := Option.bind_eq_some_iff.mp H
  obtain ⟨t183, A60, H⟩ := H
  replace H : (some t183) = some r := H
  have A6 := Aside0.mk A60
  clear A60
  obtain rfl := Option.some.inj H
  go_enter Tryd.func35, Tryd.ntmps35
  go_wp2_with (first | ((with_reducible refine gate_dst (N := 2) rfl ?_); refine box_event ?hg (N := 2) ?hd (cs := #[.int .i64 a0_0, .slice A0_1 l0_1.length c0_1]) (t := 28) ?hr ?_; (case hd => rfl); (case hg => rfl); (case hr => first | (go_simp; done) | (go_simp; rfl)); intro gb177 hg w7 hbox hb; have n0_ := Aside0.mk (below_step hb_ hb); have n1_ := Aside0.mk (hbox); have n2_ := Aside0.mk ((by rw [hg]; exact (below_size hb_) : w.heap.size ≤ gb177)); have n3_ := Aside0.mk ((by rw [hg]; exact (below_size hb_) : w.heap.size ≤ gb177)); clear HB; have HB := n0_; have BK177 := n1_; have GW177 := n2_; have GE177 := n3_; clear n0_ n1_ n2_ n3_; clear hb hbox hg; have hcz8_0 : w7.cell? ⟨gb177, 0, none⟩ = some (.int .i64 a0_0) := (blk_cell BK177.out 0).trans rfl; have hcz8_1 : w7.cell? ⟨gb177, 1, none⟩ = some (.slice A0_1 l0_1.length c0_1) := (blk_cell BK177.out 1).trans rfl; have hfz8_0 := blk_frozen BK177.out 0; have hfz8_1 := blk_frozen BK177.out 1) | (go_at_call 59; (with_reducible refine (strings_Trim.calls a1 (⟨#[46, 115, 99]⟩ : ByteArray) t178 _ A4.out).mono ?_); rintro e w9 ⟨rfl, hb⟩; have n0_ := Aside0.mk (blk_below (g := gb177) (o := .cells #[.int .i64 a0_0, .slice A0_1 l0_1.length c0_1] 28 (0, 0)) (by (with_reducible repeat (first | refine blk_drewN ?_ _ | refine blk_drew ?_ | refine blk_alloc ?_ _)); exact BK177.out) hb); have n1_ := Aside0.mk (below_step (by repeat (first | (with_reducible first | exact HB.out | apply below_alloc | apply pw_below_drewN | apply below_drew1 | refine below_set ?_ GE177.out) | exact HB.out)) hb); clear BK177; clear HB; have BK177 := n0_; have HB := n1_; clear n0_ n1_; (try clear hb); (try clear hb2); (try clear hk); (try clear hi); have hcz10_0 : w9.cell? ⟨gb177, 0, none⟩ = some (.int .i64 a0_0) := (blk_cell BK177.out 0).trans rfl; have hcz10_1 : w9.cell? ⟨gb177, 1, none⟩ = some (.slice A0_1 l0_1.length c0_1) := (blk_cell BK177.out 1).trans rfl; have hfz10_0 := blk_frozen BK177.out 0; have hfz10_1 := blk_frozen BK177.out 1) | ((with_reducible refine gate_callee (f := 60) rfl ?_); refine goesA_ (some 18) rfl rfl Tryd.func60 (by kernel_rfl) rfl #[.agg #[.int .i64 a0_0, .slice A0_1 l0_1.length c0_1]] rfl ?_; (with_reducible refine (impl_IsNet.calls a0_0 _ _ l0_1 t179 _ ?side1 ?side2 A5.out).mono ?_); (case side1 => repeat (first | exact (Kd.C_below HR0_1.out HB.out) | (with_reducible refine Kd.C_alloc ?_ _) | (with_reducible refine Kd.C_drewN ?_ _) | (with_reducible refine Kd.C_drew ?_))); (case side2 => exact HC0_1.out); rintro e w11 ⟨rfl, hb⟩; refine ⟨_, rfl, ?_⟩; have n0_ := Aside0.mk (blk_below (g := gb177) (o := .cells #[.int .i64 a0_0, .slice A0_1 l0_1.length c0_1] 28 (0, 0)) (by (with_reducible repeat (first | refine blk_drewN ?_ _ | refine blk_drew ?_ | refine blk_alloc ?_ _)); exact BK177.out) hb); have n1_ := Aside0.mk (below_step (by repeat (first | (with_reducible first | exact HB.out | apply below_alloc | apply pw_below_drewN | apply below_drew1 | refine below_set ?_ GE177.out) | exact HB.out)) hb); clear BK177; clear HB; have BK177 := n0_; have HB := n1_; clear n0_ n1_; (try clear hb); (try clear hb2); (try clear hk); (try clear hi)) | ((with_reducible refine gate_dst (N := 22) rfl ?_); refine Kd.R_lit k71 _ 71 ?hg (N := 22) ?hd (xs := ([(⟨t179, 1⟩ : S71), (⟨(t178.toList == ([] : List UInt8)), 2⟩ : S71)] : List (S71))) (inner := [.bool t179, .int .i64 1, .bool (t178.toList == ([] : List UInt8)), .int .i64 2]) (ok := fun _ => True) (okp := fun _ => True) ?hr ?hp (fun _ hk => hk) trivial (Below.refl _ _) (Nat.le_refl _) (by simp) ?_; (case hd => rfl); (case hg => rfl); (case hr => first | (go_simp; done) | (go_simp; rfl)); (case hp => exact (Reps.c2 (show Kd.M k71 _ _ _ (⟨t179, 1⟩ : S71) [.bool t179, .int .i64 1] from (k71_mkM _ _ _ (⟨t179, 1⟩ : S71) )) (Reps.c2 (show Kd.M k71 _ _ _ (⟨(t178.toList == ([] : List UInt8)), 2⟩ : S71) [.bool (t178.toList == ([] : List UInt8)), .int .i64 2] from (k71_mkM _ _ _ (⟨(t178.toList == ([] : List UInt8)), 2⟩ : S71) )) (Reps.none _ _)))); intro v181 w12 ho13 hb hg_ hnew_; clear hg_ hnew_; (first | rw [← Ny180.out] at ho13 | (simp only [Int.reduceToNat] at ho13; rw [← Ny180.out] at ho13)); have n0_ := Aside0.mk (Kd.R_lower ho13 (below_size (by repeat (first | (with_reducible first | exact HB.out | apply below_alloc | apply pw_below_drewN | apply below_drew1 | refine below_set ?_ GE177.out) | exact HB.out)))); have n1_ := Aside0.mk (blk_below (g := gb177) (o := .cells #[.int .i64 a0_0, .slice A0_1 l0_1.length c0_1] 28 (0, 0)) (by (with_reducible repeat (first | refine blk_drewN ?_ _ | refine blk_drew ?_ | refine blk_alloc ?_ _)); exact BK177.out) hb); have n2_ := Aside0.mk (below_step (by repeat (first | (with_reducible first | exact HB.out | apply below_alloc | apply pw_below_drewN | apply below_drew1 | refine below_set ?_ GE177.out) | exact HB.out)) hb); clear BK177; clear HB; have HO182 := n0_; have BK177 := n1_; have HB := n2_; clear n0_ n1_ n2_; clear hb ho13; obtain ⟨Ao14, co14, eo14⟩ := Kd.R_slice HO182.out; subst eo14) | ((with_reducible refine gate_callee (f := 44) rfl ?_); refine goesA_ (some 23) rfl rfl Tryd.func44 (by kernel_rfl) rfl #[.slice Ao14 y180.length co14] rfl ?_; (with_reducible refine (impl_first.calls k _ _ y180 t183 _ ?side1 ?side2 A6.out).mono ?_); (case side1 => repeat (first | exact (Kd.R_reads' HO182.out).2.2 | (with_reducible refine Kd.C_alloc ?_ _) | (with_reducible refine Kd.C_drewN ?_ _) | (with_reducible refine Kd.C_drew ?_))); (case side2 => exact (Kd.R_reads' HO182.out).2.1); rintro e w15 ⟨rfl, hb⟩; refine ⟨_, rfl, ?_⟩; have n0_ := Aside0.mk (Kd.R_below (by (with_reducible repeat (first | apply Kd.R_alloc | apply Kd.R_drewN | apply Kd.R_drew)); exact HO182.out) hb); have n1_ := Aside0.mk (blk_below (g := gb177) (o := .cells #[.int .i64 a0_0, .slice A0_1 l0_1.length c0_1] 28 (0, 0)) (by (with_reducible repeat (first | refine blk_drewN ?_ _ | refine blk_drew ?_ | refine blk_alloc ?_ _)); exact BK177.out) hb); have n2_ := Aside0.mk (below_step (by repeat (first | (with_reducible first | exact HB.out | apply below_alloc | apply pw_below_drewN | apply below_drew1 | refine below_set ?_ GE177.out) | exact HB.out)) hb); clear HO182; clear BK177; clear HB; have HO182 := n0_; have BK177 := n1_; have HB := n2_; clear n0_ n1_ n2_; (try clear hb); (try clear hb2); (try clear hk); (try clear hi)))
  go_ret
  exact ⟨by first | rfl | (simp [errW_none, errW_some] <;> rfl) | (simp [*, errW_none, errW_some] <;> rfl), by repeat (first | (with_reducible first | exact HB.out | apply below_alloc | apply pw_below_drewN | apply below_drew1 | refine below_set ?_ GE177.out) | exact HB.out)⟩
 ·rw [if_neg c3] at H
  have c3b0 : ((a1.size : Int) == (l0_1.length : Int)) = false := beq_eq_false_iff_ne.mpr c3
  have c3b1 : ((a1.size : Int) != (l0_1.length : Int)) = true := bne_iff_ne.mpr c3
  have c3b2 : (a1.size == l0_1.length) = false := by first | simpa using c3 | (simp at c3 ⊢; omega)
  replace H := Option.bind_eq_some_iff.mp H
  obtain ⟨t184, A160, H⟩ := H
  replace H : ((impl_first.f k (([(⟨t184, 1⟩ : S71), (⟨false, 2⟩ : S71)] : List (S71)))).bind fun t188 => (some t188)) = some r := H
  have A16 := Aside0.mk A160
  clear A160
  obtain ⟨y185, hy185⟩ : ∃ y_ : List (S71), y_ = (([(⟨t184, 1⟩ : S71), (⟨false, 2⟩ : S71)] : List (S71))) := ⟨_, rfl⟩
  replace H : ((impl_first.f k y185).bind fun t188 => (some t188)) = some r := by first | (rw [hy185]; with_reducible exact H) | (have H2_ := (Option.bind_some _ _).symm.trans H; rw [hy185]; with_reducible exact H2_) | (have H2_ := (Option.bind_some _ _).symm.trans H; with_reducible exact H2_) | with_reducible exact H | (rw [hy185]; exact H) | exact H
  have Ny185 := Aside0.mk hy185
  clear hy185
  replace H := Option.bind_eq_some_iff.mp H
  obtain ⟨t188, A170, H⟩ := H
  replace H : (some t188) = some r := H
  have A17 := Aside0.mk A170
  clear A170
  obtain rfl := Option.some.inj H
  go_enter Tryd.func35, Tryd.ntmps35
  go_wp2_with (first | ((with_reducible refine gate_dst (N := 2) rfl ?_); refine box_event ?hg (N := 2) ?hd (cs := #[.int .i64 a0_0, .slice A0_1 l0_1.length c0_1]) (t := 28) ?hr ?_; (case hd => rfl); (case hg => rfl); (case hr => first | (go_simp; done) | (go_simp; rfl)); intro gb177 hg w18 hbox hb; have n0_ := Aside0.mk (below_step hb_ hb); have n1_ := Aside0.mk (hbox); have n2_ := Aside0.mk ((by rw [hg]; exact (below_size hb_) : w.heap.size ≤ gb177)); have n3_ := Aside0.mk ((by rw [hg]; exact (below_size hb_) : w.heap.size ≤ gb177)); clear HB; have HB := n0_; have BK177 := n1_; have GW177 := n2_; have GE177 := n3_; clear n0_ n1_ n2_ n3_; clear hb hbox hg; have hcz19_0 : w18.cell? ⟨gb177, 0, none⟩ = some (.int .i64 a0_0) := (blk_cell BK177.out 0).trans rfl; have hcz19_1 : w18.cell? ⟨gb177, 1, none⟩ = some (.slice A0_1 l0_1.length c0_1) := (blk_cell BK177.out 1).trans rfl; have hfz19_0 := blk_frozen BK177.out 0; have hfz19_1 := blk_frozen BK177.out 1) | ((with_reducible refine gate_callee (f := 60) rfl ?_); refine goesA_ (some 18) rfl rfl Tryd.func60 (by kernel_rfl) rfl #[.agg #[.int .i64 a0_0, .slice A0_1 l0_1.length c0_1]] rfl ?_; (with_reducible refine (impl_IsNet.calls a0_0 _ _ l0_1 t184 _ ?side1 ?side2 A16.out).mono ?_); (case side1 => repeat (first | exact (Kd.C_below HR0_1.out HB.out) | (with_reducible refine Kd.C_alloc ?_ _) | (with_reducible refine Kd.C_drewN ?_ _) | (with_reducible refine Kd.C_drew ?_))); (case side2 => exact HC0_1.out); rintro e w20 ⟨rfl, hb⟩; refine ⟨_, rfl, ?_⟩; have n0_ := Aside0.mk (blk_below (g := gb177) (o := .cells #[.int .i64 a0_0, .slice A0_1 l0_1.length c0_1] 28 (0, 0)) (by (with_reducible repeat (first | refine blk_drewN ?_ _ | refine blk_drew ?_ | refine blk_alloc ?_ _)); exact BK177.out) hb); have n1_ := Aside0.mk (below_step (by repeat (first | (with_reducible first | exact HB.out | apply below_alloc | apply pw_below_drewN | apply below_drew1 | refine below_set ?_ GE177.out) | exact HB.out)) hb); clear BK177; clear HB; have BK177 := n0_; have HB := n1_; clear n0_ n1_; (try clear hb); (try clear hb2); (try clear hk); (try clear hi)) | ((with_reducible refine gate_dst (N := 22) rfl ?_); refine Kd.R_lit k71 _ 71 ?hg (N := 22) ?hd (xs := ([(⟨t184, 1⟩ : S71), (⟨false, 2⟩ : S71)] : List (S71))) (inner := [.bool t184, .int .i64 1, .bool false, .int .i64 2]) (ok := fun _ => True) (okp := fun _ => True) ?hr ?hp (fun _ hk => hk) trivial (Below.refl _ _) (Nat.le_refl _) (by simp) ?_; (case hd => rfl); (case hg => rfl); (case hr => first | (go_simp; done) | (go_simp; rfl)); (case hp => exact (Reps.c2 (show Kd.M k71 _ _ _ (⟨t184, 1⟩ : S71) [.bool t184, .int .i64 1] from (k71_mkM _ _ _ (⟨t184, 1⟩ : S71) )) (Reps.c2 (show Kd.M k71 _ _ _ (⟨false, 2⟩ : S71) [.bool false, .int .i64 2] from (k71_mkM _ _ _ (⟨false, 2⟩ : S71) )) (Reps.none _ _)))); intro v186 w21 ho22 hb hg_ hnew_; clear hg_ hnew_; (first | rw [← Ny185.out] at ho22 | (simp only [Int.reduceToNat] at ho22; rw [← Ny185.out] at ho22)); have n0_ := Aside0.mk (Kd.R_lower ho22 (below_size (by repeat (first | (with_reducible first | exact HB.out | apply below_alloc | apply pw_below_drewN | apply below_drew1 | refine below_set ?_ GE177.out) | exact HB.out)))); have n1_ := Aside0.mk (blk_below (g := gb177) (o := .cells #[.int .i64 a0_0, .slice A0_1 l0_1.length c0_1] 28 (0, 0)) (by (with_reducible repeat (first | refine blk_drewN ?_ _ | refine blk_drew ?_ | refine blk_alloc ?_ _)); exact BK177.out) hb); have n2_ := Aside0.mk (below_step (by repeat (first | (with_reducible first | exact HB.out | apply below_alloc | apply pw_below_drewN | apply below_drew1 | refine below_set ?_ GE177.out) | exact HB.out)) hb); clear BK177; clear HB; have HO187 := n0_; have BK177 := n1_; have HB := n2_; clear n0_ n1_ n2_; clear hb ho22; obtain ⟨Ao23, co23, eo23⟩ := Kd.R_slice HO187.out; subst eo23) | ((with_reducible refine gate_callee (f := 44) rfl ?_); refine goesA_ (some 23) rfl rfl Tryd.func44 (by kernel_rfl) rfl #[.slice Ao23 y185.length co23] rfl ?_; (with_reducible refine (impl_first.calls k _ _ y185 t188 _ ?side1 ?side2 A17.out).mono ?_); (case side1 => repeat (first | exact (Kd.R_reads' HO187.out).2.2 | (with_reducible refine Kd.C_alloc ?_ _) | (with_reducible refine Kd.C_drewN ?_ _) | (with_reducible refine Kd.C_drew ?_))); (case side2 => exact (Kd.R_reads' HO187.out).2.1); rintro e w24 ⟨rfl, hb⟩; refine ⟨_, rfl, ?_⟩; have n0_ := Aside0.mk (Kd.R_below (by (with_reducible repeat (first | apply Kd.R_alloc | apply Kd.R_drewN | apply Kd.R_drew)); exact HO187.out) hb); have n1_ := Aside0.mk (blk_below (g := gb177) (o := .cells #[.int .i64 a0_0, .slice A0_1 l0_1.length c0_1] 28 (0, 0)) (by (with_reducible repeat (first | refine blk_drewN ?_ _ | refine blk_drew ?_ | refine blk_alloc ?_ _)); exact BK177.out) hb); have n2_ := Aside0.mk (below_step (by repeat (first | (with_reducible first | exact HB.out | apply below_alloc | apply pw_below_drewN | apply below_drew1 | refine below_set ?_ GE177.out) | exact HB.out)) hb); clear HO187; clear BK177; clear HB; have HO187 := n0_; have BK177 := n1_; have HB := n2_; clear n0_ n1_ n2_; (try clear hb); (try clear hb2); (try clear hk); (try clear hi)))
  go_ret
  exact ⟨by first | rfl | (simp [errW_none, errW_some] <;> rfl) | (simp [*, errW_none, errW_some] <;> rfl), by repeat (first | (with_reducible first | exact HB.out | apply below_alloc | apply pw_below_drewN | apply below_drew1 | refine below_set ?_ GE177.out) | exact HB.out)⟩
/-! ### impl_Net_reached: function 61 -/
-- EXTERNAL: by hand
-- slices_ContainsFunc_int64_int64_66
def netOwn (e : List Int) : Int := Go.bits .or .i64 (shl .i64 1 (rd e 0)) (shl .i64 1 (rd e 1))
mutual
def impl_Net_reached.l0 : Nat → (Int → Bool) → List (List Int) → Int → Int → Option Int
  | 0, _, _, _, _ => none
  | k + 1, acc, l, before, out => if before = out then some out else impl_Net_reached.l1 k acc l out out 0
def impl_Net_reached.l1 : Nat → (Int → Bool) → List (List Int) → Int → Int → Nat → Option Int
  | 0, _, _, _, _, _ => none
  | k + 1, acc, l, before, out, i => if i < l.length then (if acc (i : Int) = true then (if Go.bits .and .i64 out (netOwn (rd_L1 l i)) = 0 then impl_Net_reached.l1 k acc l before out (i + 1) else impl_Net_reached.l1 k acc l before (Go.bits .or .i64 out (netOwn (rd_L1 l i))) (i + 1)) else impl_Net_reached.l1 k acc l before out (i + 1)) else impl_Net_reached.l0 k acc l before out
end
theorem shl1_w {x j : Int} (h : shl .i64 1 x = j) : wrap64 (2 ^ min x.toNat 64) = j := by
  have h1 : IntKind.i64.wrap (1 * 2 ^ min x.toNat 64) = j := h
  rw [Int.one_mul] at h1
  exact (i64_w _).symm.trans h1
theorem shl1_u {x j : Int} (h : shl .i64 1 x = j) : IntKind.i64.wrap (2 ^ min x.toNat 64) = j := by
  have h1 : IntKind.i64.wrap (1 * 2 ^ min x.toNat 64) = j := h
  rw [Int.one_mul] at h1
  exact h1
set_option maxHeartbeats 2000000 in
set_option maxRecDepth 100000 in
theorem impl_Net_reached.calls (g : Nat) (lb : Array Value) (acc : Int → Bool) (eg : ∀ args w, (callFunc g args).run Tryd.prog w = .ok (.enter g args) w) (k : Nat)
    (a0_0 : Int) (A0_1 : Option Addr) (c0_1 : Nat) (l0_1 : List (List Int)) (a1 : Int) (r : Int) (w : World) (hp : PredK Tryd.prog g lb (Kd.int .i64) (fun x => 0 ≤ x ∧ x < (l0_1.length : Int)) acc w)
    (hr0_1 : Kd.C (Kd.slice 2 (Kd.int .i64)) w A0_1 l0_1.length l0_1) (hc0_1 : l0_1.length ≤ c0_1) (he : ∀ e ∈ l0_1, e.length = 2 ∧ 0 ≤ rd e 0 ∧ 0 ≤ rd e 1) (h1 : 0 ≤ a1) (h : impl_Net_reached.l0 k acc l0_1 0 (shl .i64 1 a1) = some r) :
    Calls Tryd.prog 61 #[.agg #[.int .i64 a0_0, .slice A0_1 l0_1.length c0_1], .int .i64 a1, .func (.func g) #[] lb] w fun e w' => e = .returned (.int .i64 r) ∧ Below w.heap.size w w' := by
  have HP := Aside0.mk hp
  have HR := Aside0.mk hr0_1
  have HE := Aside0.mk he
  have hm := hr0_1.2.1
  clear hp hr0_1 he
  have hu := Tryd.underlying28
  have HB0 := Aside0.mk (Below.refl w.heap.size w)
  obtain ⟨j0, hj0⟩ : ∃ j_ : Int, shl .i64 1 a1 = j_ := ⟨_, rfl⟩
  rw [hj0] at h
  have H' := Aside0.mk h
  clear h
  have hj0w := shl1_w hj0
  have hj0_ : IntKind.i64.wrap (1 * 2 ^ min a1.toNat 64) = j0 := hj0
  have hj0z : a1 ≤ 64 → IntKind.i64.wrap (1 * 2 ^ a1.toNat) = j0 := shl_small hj0
  have h1a := eq_true h1
  have h1b : decide (0 ≤ a1) = true := decide_eq_true h1
  clear hj0 h1
  go_enter Tryd.func61, Tryd.ntmps61
  go_wp2_with (first | ((with_reducible refine gate_dst (N := 3) rfl ?_); refine box_event ?hg (N := 3) ?hd (cs := #[.int .i64 a0_0, .slice A0_1 l0_1.length c0_1]) (t := 28) ?hr ?_; (case hd => rfl); (case hg => rfl); (case hr => first | (go_simp; done) | (go_simp; rfl)); intro gb hgb w1 hbox hb; have HB1 := Aside0.mk (below_step HB0.out hb); have HX1 := Aside0.mk hbox; clear hb hbox hgb))
  go_loopg [7, 8] k (fun kq s7 s8 wr => ∃ (o b : Int), s7 = .int .i64 o ∧ s8 = .int .i64 b ∧ Aside0 (impl_Net_reached.l0 kq acc l0_1 b o = some r) ∧ Aside0 (kq ≤ k) ∧ Aside0 (wr.heap[gb]? = some (.cells #[.int .i64 a0_0, .slice A0_1 l0_1.length c0_1] 28 (0, 0))) ∧ Aside0 (Below w.heap.size w wr))
  case atStart => exact ⟨j0, 0, (by rw [hj0w]), rfl, H', ⟨Nat.le_refl _⟩, ⟨HX1.out⟩, ⟨HB1.out⟩⟩
  case round =>
    clear H' h1a h1b hj0w hj0_ hj0z HB1 HX1
    obtain ⟨o, b, rfl, rfl, HA, HK, HX, HB⟩ := hrel
    cases gk with
    | zero => exact absurd HA.out (by simp [impl_Net_reached.l0])
    | succ k1 =>
      have H := HA.out
      clear HA
      simp only [impl_Net_reached.l0] at H
      by_cases c1 : b = o
      · rw [if_pos c1] at H
        have c1a : (b == o) = true := beq_iff_eq.mpr c1
        have c1b : (b != o) = false := bne_eq_false_iff_eq.mpr c1
        obtain rfl := Option.some.inj H
        clear c1
        go_wp2_with fail
        go_ret
        exact ⟨rfl, HB.out⟩
      · rw [if_neg c1] at H
        have c1a : (b == o) = false := beq_eq_false_iff_ne.mpr c1
        have c1b : (b != o) = true := bne_iff_ne.mpr c1
        have H' := Aside0.mk H
        clear H c1
        have hc1 : wr.cell? ⟨gb, 1, none⟩ = some (.slice A0_1 l0_1.length c0_1) := (blk_cell HX.out 1).trans rfl
        go_wp2_with fail
        clear c1a c1b hc1
        go_loopg [7, 21] k1 (fun kq s7 s21 wr => ∃ (o1 : Int) (ii : Nat), s7 = .int .i64 o1 ∧ s21 = .int .i64 ii ∧ ii ≤ l0_1.length ∧ Aside0 (impl_Net_reached.l1 kq acc l0_1 o o1 ii = some r) ∧ Aside0 (kq ≤ k1) ∧ Aside0 (wr.heap[gb]? = some (.cells #[.int .i64 a0_0, .slice A0_1 l0_1.length c0_1] 28 (0, 0))) ∧ Aside0 (Below w.heap.size w wr))
        case atStart => exact ⟨o, 0, rfl, rfl, Nat.zero_le _, H', ⟨Nat.le_refl _⟩, ⟨HX.out⟩, ⟨HB.out⟩⟩
        case round =>
          clear H' HX HB
          obtain ⟨o1, ii, rfl, rfl, hii, HA, HK2, HX, HB⟩ := hrel
          cases gk with
          | zero => exact absurd HA.out (by simp [impl_Net_reached.l1])
          | succ k2 =>
            have H := HA.out
            clear HA
            simp only [impl_Net_reached.l1] at H
            by_cases c2 : ii < l0_1.length
            · rw [if_pos c2] at H
              have c2a : decide ((ii : Int) < (l0_1.length : Int)) = true := decide_eq_true (by omega)
              have p : (0 : Int) ≤ (ii : Int) := by omega
              have q : (ii : Int) < (l0_1.length : Int) := by omega
              have hel := HE.out (rd_L1 l0_1 ii) (by show l0_1.getD ((ii : Int)).toNat [] ∈ l0_1; rw [Int.toNat_natCast, List.getD_eq_getElem?_getD, List.getElem?_eq_getElem c2]; exact List.getElem_mem c2)
              obtain ⟨ad, A, c, rfl, hx, hl, hi⟩ := at_L1 HR.out (ii : Int) p q
              have hcall := fun W hb => HP.out W (ii : Int) (.int .i64 ii) ⟨p, q⟩ rfl hb
              have hpq := eq_true q
              have hpp := eq_true p
              generalize rd_L1 l0_1 (ii : Int) = e at H hel hx hl hi
              obtain ⟨hlen, e0, e1⟩ := hel
              obtain ⟨ad0, rfl, hx0⟩ := Kd.at_int hi 0 (by omega) (by omega)
              obtain ⟨ad1, he1, hx1⟩ := Kd.at_int hi 1 (by omega) (by omega)
              obtain rfl : ad0 = ad1 := by injection he1
              replace hx := (HB.out.cell (World.block_lt_of_cell? w _ hx)).trans hx
              replace hx0 := (HB.out.cell (World.block_lt_of_cell? w _ hx0)).trans hx0
              replace hx1 := (HB.out.cell (World.block_lt_of_cell? w _ hx1)).trans hx1
              rw [Int.toNat_natCast] at hx
              (try rw [show ((0 : Int)).toNat = 0 from rfl] at hx0)
              (try rw [Addr.add_zero'] at hx0)
              (try rw [show ((1 : Int)).toNat = 1 from rfl] at hx1)
              (try simp only [show (1 : Int).toNat = 1 from rfl, Nat.reduceMul, Nat.reduceEqDiff, Go.Addr.add, ↓reduceIte] at hx1)
              have q0 : (0 < e.length) = True := eq_true (by omega)
              have q1 : (1 < e.length) = True := eq_true (by omega)
              have q0' : decide (0 < e.length) = true := decide_eq_true (by omega)
              have q1' : decide (1 < e.length) = true := decide_eq_true (by omega)
              have q0i : ((0 : Int) < (e.length : Int)) = True := eq_true (by omega)
              have q1i : ((1 : Int) < (e.length : Int)) = True := eq_true (by omega)
              have q0z : decide ((0 : Int) < (e.length : Int)) = true := decide_eq_true (by omega)
              have q1z : decide ((1 : Int) < (e.length : Int)) = true := decide_eq_true (by omega)
              unfold netOwn at H
              generalize rd e 0 = x0 at H e0 hx0
              generalize rd e 1 = x1 at H e1 hx1
              obtain ⟨j1, hj1⟩ : ∃ j_ : Int, shl .i64 1 x0 = j_ := ⟨_, rfl⟩
              obtain ⟨j2, hj2⟩ : ∃ j_ : Int, shl .i64 1 x1 = j_ := ⟨_, rfl⟩
              rw [hj1, hj2] at H
              have hj1w := shl1_w hj1
              have hj1u := shl1_u hj1
              have hj1_ : IntKind.i64.wrap (1 * 2 ^ min x0.toNat 64) = j1 := hj1
              have hj1z : x0 ≤ 64 → IntKind.i64.wrap (1 * 2 ^ x0.toNat) = j1 := shl_small hj1
              have hj2w := shl1_w hj2
              have hj2u := shl1_u hj2
              have hj2_ : IntKind.i64.wrap (1 * 2 ^ min x1.toNat 64) = j2 := hj2
              have hj2z : x1 ≤ 64 → IntKind.i64.wrap (1 * 2 ^ x1.toNat) = j2 := shl_small hj2
              have e0a := eq_true e0
              have e1a := eq_true e1
              have e0b : decide (0 ≤ x0) = true := decide_eq_true e0
              have e1b : decide (0 ≤ x1) = true := decide_eq_true e1
              clear hj1 hj2 e0 e1 hi hl hlen he1
              generalize acc (ii : Int) = bb at H hcall
              cases bb with
              | false =>
                rw [if_neg (by simp)] at H
                have H' := Aside0.mk H
                clear H
                go_wp2_with fail
                go_quiet (fail)
                go_wp2_with (go_at_fn g; refine (hcall _ (pw_below_drewN HB.out _)).mono ?_; rintro e w9 ⟨rfl, hb⟩; have HX9 := Aside0.mk (blk_below (blk_drewN HX.out nq) hb); have HB9 := Aside0.mk (below_step (pw_below_drewN HB.out nq) hb); clear hb)
                go_roundg k2
                case measure => have := HK.out; have := HK2.out; omega
                case rel => exact ⟨o1, ii + 1, rfl, (by go_num), by omega, H', ⟨by have := HK2.out; omega⟩, ⟨HX9.out⟩, ⟨HB9.out⟩⟩
              | true =>
                rw [if_pos rfl] at H
                by_cases c3 : Go.bits .and .i64 o1 (Go.bits .or .i64 j1 j2) = 0
                · rw [if_pos c3] at H
                  have c3a : (Go.bits .and .i64 o1 (Go.bits .or .i64 j1 j2) == 0) = true := beq_iff_eq.mpr c3
                  have c3b : (Go.bits .and .i64 o1 (Go.bits .or .i64 j1 j2) != 0) = false := bne_eq_false_iff_eq.mpr c3
                  clear c3
                  have H' := Aside0.mk H
                  clear H
                  go_wp2_with fail
                  go_quiet (fail)
                  go_wp2_with (go_at_fn g; refine (hcall _ (pw_below_drewN HB.out _)).mono ?_; rintro e w9 ⟨rfl, hb⟩; have HX9 := Aside0.mk (blk_below (blk_drewN HX.out nq) hb); have HB9 := Aside0.mk (below_step (pw_below_drewN HB.out nq) hb); clear hb)
                  go_roundg k2
                  case measure => have := HK.out; have := HK2.out; omega
                  case rel => exact ⟨o1, ii + 1, rfl, (by go_num), by omega, H', ⟨by have := HK2.out; omega⟩, ⟨HX9.out⟩, ⟨HB9.out⟩⟩
                · rw [if_neg c3] at H
                  have c3a : (Go.bits .and .i64 o1 (Go.bits .or .i64 j1 j2) == 0) = false := beq_eq_false_iff_ne.mpr c3
                  have c3b : (Go.bits .and .i64 o1 (Go.bits .or .i64 j1 j2) != 0) = true := bne_iff_ne.mpr c3
                  clear c3
                  have H' := Aside0.mk H
                  clear H
                  go_wp2_with fail
                  go_quiet (fail)
                  go_wp2_with (go_at_fn g; refine (hcall _ (pw_below_drewN HB.out _)).mono ?_; rintro e w9 ⟨rfl, hb⟩; have HX9 := Aside0.mk (blk_below (blk_drewN HX.out nq) hb); have HB9 := Aside0.mk (below_step (pw_below_drewN HB.out nq) hb); clear hb)
                  go_roundg k2
                  case measure => have := HK.out; have := HK2.out; omega
                  case rel => exact ⟨Go.bits .or .i64 o1 (Go.bits .or .i64 j1 j2), ii + 1, rfl, (by go_num), by omega, H', ⟨by have := HK2.out; omega⟩, ⟨HX9.out⟩, ⟨HB9.out⟩⟩
            · rw [if_neg c2] at H
              have c2a : decide ((ii : Int) < (l0_1.length : Int)) = false := decide_eq_false (by omega)
              have H' := Aside0.mk H
              clear H
              go_wp2_with fail
              go_roundg k2
              case measure => have := HK.out; have := HK2.out; omega
              case rel => exact ⟨o1, o, rfl, rfl, H', ⟨by have := HK.out; have := HK2.out; omega⟩, ⟨HX.out⟩, ⟨HB.out⟩⟩
-- Bits of whole numbers that are not less than 0.
theorem bitv_nat (a : Nat) (ha : a < 9223372036854775808) : (BitVec.ofInt 64 (a : Int)).toNat = a := by
  rw [BitVec.ofInt_natCast, BitVec.toNat_ofNat]; exact Nat.mod_eq_of_lt (by omega)
theorem i64_nat (n : Nat) (h : n < 9223372036854775808) : IntKind.i64.wrap (n : Int) = (n : Int) := by
  rw [i64_w]; unfold wrap64; omega
theorem bits_and_nat (a b : Nat) (ha : a < 9223372036854775808) (hb : b < 9223372036854775808) : Go.bits .and .i64 (a : Int) (b : Int) = ((a &&& b : Nat) : Int) := by
  have hx : a &&& b < 2 ^ 63 := Nat.and_lt_two_pow _ (by omega)
  show IntKind.i64.wrap ((BitVec.ofInt 64 (a : Int) &&& BitVec.ofInt 64 (b : Int)).toNat : Int) = _
  rw [BitVec.toNat_and, bitv_nat a ha, bitv_nat b hb, i64_nat _ (by omega)]
theorem bits_or_nat (a b : Nat) (ha : a < 9223372036854775808) (hb : b < 9223372036854775808) : Go.bits .or .i64 (a : Int) (b : Int) = ((a ||| b : Nat) : Int) := by
  have hx : a ||| b < 2 ^ 63 := Nat.or_lt_two_pow (by omega) (by omega)
  show IntKind.i64.wrap ((BitVec.ofInt 64 (a : Int) ||| BitVec.ofInt 64 (b : Int)).toNat : Int) = _
  rw [BitVec.toNat_or, bitv_nat a ha, bitv_nat b hb, i64_nat _ (by omega)]
/-- What a has and b has not. -/
def butNat (a b : Nat) : Nat := (BitVec.ofInt 64 (a : Int) &&& ~~~ BitVec.ofInt 64 (b : Int)).toNat
theorem butNat_bit (a b i : Nat) (ha : a < 9223372036854775808) (hb : b < 9223372036854775808) : (butNat a b).testBit i = (a.testBit i && !b.testBit i) := by
  unfold butNat
  rw [← BitVec.getLsbD, BitVec.getLsbD_and, BitVec.getLsbD_not, BitVec.getLsbD, BitVec.getLsbD, bitv_nat a ha, bitv_nat b hb]
  by_cases h : i < 64
  · simp [h]
  · have : a.testBit i = false := Nat.testBit_lt_two_pow (Nat.lt_of_lt_of_le ha (by have : 2 ^ 63 ≤ 2 ^ i := Nat.pow_le_pow_right (by omega) (by omega); omega))
    simp [h, this]
theorem butNat_lt (a b : Nat) (ha : a < 9223372036854775808) (hb : b < 9223372036854775808) : butNat a b ≤ a := by
  unfold butNat
  rw [BitVec.toNat_and, bitv_nat a ha]
  exact Nat.and_le_left
theorem bits_but_nat (a b : Nat) (ha : a < 9223372036854775808) (hb : b < 9223372036854775808) : Go.bits .andNot .i64 (a : Int) (b : Int) = ((butNat a b : Nat) : Int) := by
  show IntKind.i64.wrap ((BitVec.ofInt 64 (a : Int) &&& ~~~ BitVec.ofInt 64 (b : Int)).toNat : Int) = _
  have := butNat_lt a b ha hb
  unfold butNat at this ⊢
  rw [i64_nat _ (by omega)]
theorem shl_nat (i : Nat) (h : i < 63) : shl .i64 1 (i : Int) = ((2 ^ i : Nat) : Int) := by
  unfold shl
  have h1 : min ((i : Int)).toNat IntKind.i64.bits = i := by rw [Int.toNat_natCast]; show min i 64 = i; omega
  rw [h1, Int.one_mul]
  have h2 : (2 : Nat) ^ i < 9223372036854775808 := by
    have : (2 : Nat) ^ i < 2 ^ 63 := Nat.pow_lt_pow_right (by omega) h
    omega
  have h3 : ((2 : Int) ^ i) = ((2 ^ i : Nat) : Int) := by simp
  rw [h3, i64_nat _ h2]
theorem shr_nat (m i : Nat) (h : i ≤ 64) : shr .i64 (m : Int) (i : Int) = ((m >>> i : Nat) : Int) := by
  unfold shr
  have h1 : min ((i : Int)).toNat IntKind.i64.bits = i := by rw [Int.toNat_natCast]; show min i 64 = i; omega
  rw [h1, Nat.shiftRight_eq_div_pow]
  simp
/-- One bit read. -/
theorem bit_nat (m i : Nat) (hm : m < 9223372036854775808) (h : i ≤ 64) : Go.bits .and .i64 (shr .i64 (m : Int) (i : Int)) 1 = if m.testBit i = true then 1 else 0 := by
  rw [shr_nat m i h]
  have hs : m >>> i ≤ m := Nat.shiftRight_le m i
  have := bits_and_nat (m >>> i) 1 (by omega) (by omega)
  rw [show ((1 : Int)) = ((1 : Nat) : Int) from rfl, this]
  unfold Nat.testBit
  rw [Nat.and_comm 1]
  rw [Nat.and_one_is_mod]
  rcases Nat.mod_two_eq_zero_or_one (m >>> i) with e | e <;> rw [e] <;> simp
theorem u64_nat (i : Nat) (h : i < 9223372036854775808) : IntKind.u64.wrap (i : Int) = (i : Int) := by
  show (i : Int) % 18446744073709551616 = i
  omega
/-! ### laws_szInt64S: function 55 -/
def laws_szInt64S.f (l0 : List Int) (a1 : Int) : Option (Int) := if (wrap64 (a1 - (l0.length : Int))) < 0 then (some (-1)) else (some (wrap64 (a1 - (l0.length : Int))))
set_option maxHeartbeats 8000000 in
set_option maxRecDepth 100000 in
theorem laws_szInt64S.calls (A0 : Option Addr) (c0 : Nat) (l0 : List Int) (a1 : Int) (r : Int) (w : World) (hr0 : Kd.C (Kd.int .i64) w A0 l0.length l0) (hc0 : l0.length ≤ c0) (h : laws_szInt64S.f l0 a1 = some r) :
  Calls Tryd.prog 55 #[.slice A0 l0.length c0, .int .i64 a1] w fun e w' => e = .returned (.int .i64 r) ∧ Drawn0 w w' := by
 have HR0 := Aside0.mk hr0
 have HC0 := Aside0.mk hc0
 clear hr0 hc0
 have H : (if (wrap64 (a1 - (l0.length : Int))) < 0 then (some (-1)) else (some (wrap64 (a1 - (l0.length : Int))))) = some r := h
 clear h
 by_cases c3 : (wrap64 (a1 - (l0.length : Int))) < 0
 ·rw [if_pos c3] at H
  have c3b0 : decide ((wrap64 (a1 - (l0.length : Int))) < 0) = true := decide_eq_true c3
  clear c3
  obtain rfl := Option.some.inj H
  go_enter Tryd.func55, Tryd.ntmps55
  go_wp2
  go_ret
  exact ⟨by first | rfl | (simp; done) | (simp [*]; done), by repeat (first | exact Drawn0.refl _ | apply Drawn0.step)⟩
 ·rw [if_neg c3] at H
  have c3b0 : decide ((wrap64 (a1 - (l0.length : Int))) < 0) = false := decide_eq_false c3
  clear c3
  obtain rfl := Option.some.inj H
  go_enter Tryd.func55, Tryd.ntmps55
  go_wp2
  go_ret
  exact ⟨by first | rfl | (simp; done) | (simp [*]; done), by repeat (first | exact Drawn0.refl _ | apply Drawn0.step)⟩
/-! ### laws_szInt64SS: function 30 -/
def laws_szInt64SS.l0 : Nat → List (List Int) → Int → Int → Option (Int)
 | 0, _, _, _ => none
 | k + 1, x0, x1, x5 => if x5 < (x0.length : Int) then (if 0 ≤ x5 then ((laws_szInt64S.f (rd_L1 x0 x5) x1).bind fun t102 => (if t102 < 0 then (some (-1)) else (laws_szInt64SS.l0 k x0 t102 (wrap64 (x5 + 1))))) else (none)) else (some x1)
def laws_szInt64SS.f (k : Nat) (l0 : List (List Int)) (a1 : Int) : Option (Int) := if (wrap64 (a1 - (l0.length : Int))) < 0 then (some (-1)) else (laws_szInt64SS.l0 k l0 (wrap64 (a1 - (l0.length : Int))) 0)
set_option maxHeartbeats 8000000 in
set_option maxRecDepth 100000 in
theorem laws_szInt64SS.calls (k : Nat) (A0 : Option Addr) (c0 : Nat) (l0 : List (List Int)) (a1 : Int) (r : Int) (w : World) (hr0 : Kd.C (Kd.slice 2 (Kd.int .i64)) w A0 l0.length l0) (hc0 : l0.length ≤ c0) (h : laws_szInt64SS.f k l0 a1 = some r) :
  Calls Tryd.prog 30 #[.slice A0 l0.length c0, .int .i64 a1] w fun e w' => e = .returned (.int .i64 r) ∧ Drawn0 w w' := by
 have HR0 := Aside0.mk hr0
 have HC0 := Aside0.mk hc0
 clear hr0 hc0
 have H : (if (wrap64 (a1 - (l0.length : Int))) < 0 then (some (-1)) else (laws_szInt64SS.l0 k l0 (wrap64 (a1 - (l0.length : Int))) 0)) = some r := h
 clear h
 by_cases c3 : (wrap64 (a1 - (l0.length : Int))) < 0
 ·rw [if_pos c3] at H
  have c3b0 : decide ((wrap64 (a1 - (l0.length : Int))) < 0) = true := decide_eq_true c3
  clear c3
  obtain rfl := Option.some.inj H
  go_enter Tryd.func30, Tryd.ntmps30
  go_wp2
  go_ret
  exact ⟨by first | rfl | (simp; done) | (simp [*]; done), by repeat (first | exact Drawn0.refl _ | apply Drawn0.step)⟩
 ·rw [if_neg c3] at H
  have c3b0 : decide ((wrap64 (a1 - (l0.length : Int))) < 0) = false := decide_eq_false c3
  clear c3
  have H' := Aside0.mk H
  clear H
  go_enter Tryd.func30, Tryd.ntmps30
  go_wp2
  go_loopg [1, 5] k (fun kq v1 v5 w' => ∃ (x1_1 : Int) (x5_1 : Int), v1 = .int .i64 x1_1 ∧ v5 = .int .i64 x5_1 ∧ Aside0 (laws_szInt64SS.l0 kq l0 x1_1 x5_1 = some r) ∧ Aside0 (kq ≤ k) ∧ Drawn0 w w')
  case atStart => exact ⟨(wrap64 (a1 - (l0.length : Int))), (0), (by first | rfl | (simp; done) | (simp [*]; done)), (by first | rfl | (simp; done) | (simp [*]; done)), H', ⟨Nat.le_refl _⟩, by repeat (first | exact Drawn0.refl _ | apply Drawn0.step)⟩
  case round =>
   clear H'
   (try clear p2); (try clear c3); (try clear c3b0)
   obtain ⟨x1_1, x5_1, rfl, rfl, HA, HK1, ⟨m1, rfl⟩⟩ := hrel
   cases gk with
   | zero => exact absurd HA.out (by simp [laws_szInt64SS.l0])
   | succ k1 =>
    have H := HA.out
    clear HA
    simp only [laws_szInt64SS.l0] at H
    by_cases c4 : x5_1 < (l0.length : Int)
    ·rw [if_pos c4] at H
     have c4b0 : decide (x5_1 < (l0.length : Int)) = true := decide_eq_true c4
     clear c4
     by_cases c5 : 0 ≤ x5_1
     ·rw [if_pos c5] at H
      have c5b0 : decide (0 ≤ x5_1) = true := decide_eq_true c5
      clear c5
      replace H := Option.bind_eq_some_iff.mp H
      obtain ⟨t102, A60, H⟩ := H
      replace H : (if t102 < 0 then (some (-1)) else (laws_szInt64SS.l0 k1 l0 t102 (wrap64 (x5_1 + 1)))) = some r := H
      have A6 := Aside0.mk A60
      clear A60
      by_cases c7 : t102 < 0
      ·rw [if_pos c7] at H
       have c7b0 : decide (t102 < 0) = true := decide_eq_true c7
       clear c7
       obtain rfl := Option.some.inj H
       have p101 : 0 ≤ (x5_1 : Int) := oda
       have q101 : x5_1 < (l0.length : Int) := oda
       obtain ⟨ad101, A101_0, c101_0, e101, hx101_0, hl101_0, hi101_0⟩ := at_L1 HR0.out x5_1 p101 q101
       cases e101
       have HR101_0 := Aside0.mk hi101_0
       have HC101_0 := Aside0.mk hl101_0
       clear hi101_0 hl101_0
       replace p101 := eq_true p101
       replace q101 := eq_true q101
       go_wp2_with (first | ((with_reducible refine gate_callee (f := 55) rfl ?_); refine goesA_ (some 23) rfl rfl Tryd.func55 (by kernel_rfl) rfl #[.slice A101_0 (rd_L1 l0 x5_1).length c101_0, .int .i64 x1_1] rfl ?_; (with_reducible refine (laws_szInt64S.calls _ _ (rd_L1 l0 x5_1) x1_1 t102 _ ?side1 ?side2 A6.out).mono ?_); (case side1 => repeat (first | exact HR101_0.out | (with_reducible refine Kd.C_alloc ?_ _) | (with_reducible refine Kd.C_drewN ?_ _) | (with_reducible refine Kd.C_drew ?_))); (case side2 => exact HC101_0.out); rintro e w' ⟨rfl, ⟨nd, rfl⟩⟩; refine ⟨_, rfl, ?_⟩))
       go_ret
       exact ⟨by first | rfl | (simp; done) | (simp [*]; done), by repeat (first | exact Drawn0.refl _ | apply Drawn0.step)⟩
      ·rw [if_neg c7] at H
       have c7b0 : decide (t102 < 0) = false := decide_eq_false c7
       clear c7
       have H' := Aside0.mk H
       clear H
       have p101 : 0 ≤ (x5_1 : Int) := oda
       have q101 : x5_1 < (l0.length : Int) := oda
       obtain ⟨ad101, A101_0, c101_0, e101, hx101_0, hl101_0, hi101_0⟩ := at_L1 HR0.out x5_1 p101 q101
       cases e101
       have HR101_0 := Aside0.mk hi101_0
       have HC101_0 := Aside0.mk hl101_0
       clear hi101_0 hl101_0
       replace p101 := eq_true p101
       replace q101 := eq_true q101
       go_wp2_with (first | ((with_reducible refine gate_callee (f := 55) rfl ?_); refine goesA_ (some 23) rfl rfl Tryd.func55 (by kernel_rfl) rfl #[.slice A101_0 (rd_L1 l0 x5_1).length c101_0, .int .i64 x1_1] rfl ?_; (with_reducible refine (laws_szInt64S.calls _ _ (rd_L1 l0 x5_1) x1_1 t102 _ ?side1 ?side2 A6.out).mono ?_); (case side1 => repeat (first | exact HR101_0.out | (with_reducible refine Kd.C_alloc ?_ _) | (with_reducible refine Kd.C_drewN ?_ _) | (with_reducible refine Kd.C_drew ?_))); (case side2 => exact HC101_0.out); rintro e w' ⟨rfl, ⟨nd, rfl⟩⟩; refine ⟨_, rfl, ?_⟩))
       go_roundg k1
       case measure => have := HK1.out; omega
       case rel => exact ⟨(t102), (wrap64 (x5_1 + 1)), (by first | rfl | (simp; done) | (simp [*]; done)), (by first | rfl | (simp; done) | (simp [*]; done)), H', ⟨by have := HK1.out; omega⟩, by repeat (first | exact Drawn0.refl _ | apply Drawn0.step)⟩
     ·rw [if_neg c5] at H
      exact absurd H (by simp)
    ·rw [if_neg c4] at H
     have c4b0 : decide (x5_1 < (l0.length : Int)) = false := decide_eq_false c4
     clear c4
     obtain rfl := Option.some.inj H
     go_wp2
     go_ret
     exact ⟨by first | rfl | (simp; done) | (simp [*]; done), by repeat (first | exact Drawn0.refl _ | apply Drawn0.step)⟩
/-! ### laws_szNet: function 9 -/
def laws_szNet.f (k : Nat) (a0_0 : Int) (l0_1 : List (List Int)) (a1 : Int) : Option (Int) := (laws_szInt64SS.f k l0_1 a1).bind fun t104 => (if t104 < 0 then (some (-1)) else (some t104))
set_option maxHeartbeats 8000000 in
set_option maxRecDepth 100000 in
theorem laws_szNet.calls (k : Nat) (a0_0 : Int) (A0_1 : Option Addr) (c0_1 : Nat) (l0_1 : List (List Int)) (a1 : Int) (r : Int) (w : World) (hr0_1 : Kd.C (Kd.slice 2 (Kd.int .i64)) w A0_1 l0_1.length l0_1) (hc0_1 : l0_1.length ≤ c0_1) (h : laws_szNet.f k a0_0 l0_1 a1 = some r) :
  Calls Tryd.prog 9 #[.agg #[.int .i64 a0_0, .slice A0_1 l0_1.length c0_1], .int .i64 a1] w fun e w' => e = .returned (.int .i64 r) ∧ Below w.heap.size w w' := by
 have hu24 := Tryd.underlying24
 have HR0_1 := Aside0.mk hr0_1
 have HC0_1 := Aside0.mk hc0_1
 clear hr0_1 hc0_1
 have HB := Aside0.mk (Below.refl w.heap.size w)
 have H : ((laws_szInt64SS.f k l0_1 a1).bind fun t104 => (if t104 < 0 then (some (-1)) else (some t104))) = some r := h
 clear h
 replace H := Option.bind_eq_some_iff.mp H
 obtain ⟨t104, A30, H⟩ := H
 replace H : (if t104 < 0 then (some (-1)) else (some t104)) = some r := H
 have A3 := Aside0.mk A30
 clear A30
 by_cases c4 : t104 < 0
 ·rw [if_pos c4] at H
  have c4b0 : decide (t104 < 0) = true := decide_eq_true c4
  clear c4
  obtain rfl := Option.some.inj H
  go_enter Tryd.func9, Tryd.ntmps9
  go_wp2_with (first | ((with_reducible refine gate_dst (N := 2) rfl ?_); refine box_event ?hg (N := 2) ?hd (cs := #[.int .i64 a0_0, .slice A0_1 l0_1.length c0_1]) (t := 24) ?hr ?_; (case hd => rfl); (case hg => rfl); (case hr => first | (go_simp; done) | (go_simp; rfl)); intro gb103 hg w5 hbox hb; have n0_ := Aside0.mk (below_step hb_ hb); have n1_ := Aside0.mk (hbox); have n2_ := Aside0.mk ((by rw [hg]; exact (below_size hb_) : w.heap.size ≤ gb103)); have n3_ := Aside0.mk ((by rw [hg]; exact (below_size hb_) : w.heap.size ≤ gb103)); clear HB; have HB := n0_; have BK103 := n1_; have GW103 := n2_; have GE103 := n3_; clear n0_ n1_ n2_ n3_; clear hb hbox hg; have hcz6_0 : w5.cell? ⟨gb103, 0, none⟩ = some (.int .i64 a0_0) := (blk_cell BK103.out 0).trans rfl; have hcz6_1 : w5.cell? ⟨gb103, 1, none⟩ = some (.slice A0_1 l0_1.length c0_1) := (blk_cell BK103.out 1).trans rfl; have hfz6_0 := blk_frozen BK103.out 0; have hfz6_1 := blk_frozen BK103.out 1) | ((with_reducible refine gate_callee (f := 30) rfl ?_); refine goesA_ (some 8) rfl rfl Tryd.func30 (by kernel_rfl) rfl #[.slice A0_1 l0_1.length c0_1, .int .i64 a1] rfl ?_; (with_reducible refine (laws_szInt64SS.calls k _ _ l0_1 a1 t104 _ ?side1 ?side2 A3.out).mono ?_); (case side1 => repeat (first | exact (Kd.C_below HR0_1.out HB.out) | (with_reducible refine Kd.C_alloc ?_ _) | (with_reducible refine Kd.C_drewN ?_ _) | (with_reducible refine Kd.C_drew ?_))); (case side2 => exact HC0_1.out); rintro e w' ⟨rfl, ⟨nd, rfl⟩⟩; refine ⟨_, rfl, ?_⟩))
  go_ret
  exact ⟨by first | rfl | (simp [errW_none, errW_some] <;> rfl) | (simp [*, errW_none, errW_some] <;> rfl), by repeat (first | (with_reducible first | exact HB.out | apply below_alloc | apply pw_below_drewN | apply below_drew1 | refine below_set ?_ GE103.out) | exact HB.out)⟩
 ·rw [if_neg c4] at H
  have c4b0 : decide (t104 < 0) = false := decide_eq_false c4
  clear c4
  obtain rfl := Option.some.inj H
  go_enter Tryd.func9, Tryd.ntmps9
  go_wp2_with (first | ((with_reducible refine gate_dst (N := 2) rfl ?_); refine box_event ?hg (N := 2) ?hd (cs := #[.int .i64 a0_0, .slice A0_1 l0_1.length c0_1]) (t := 24) ?hr ?_; (case hd => rfl); (case hg => rfl); (case hr => first | (go_simp; done) | (go_simp; rfl)); intro gb103 hg w7 hbox hb; have n0_ := Aside0.mk (below_step hb_ hb); have n1_ := Aside0.mk (hbox); have n2_ := Aside0.mk ((by rw [hg]; exact (below_size hb_) : w.heap.size ≤ gb103)); have n3_ := Aside0.mk ((by rw [hg]; exact (below_size hb_) : w.heap.size ≤ gb103)); clear HB; have HB := n0_; have BK103 := n1_; have GW103 := n2_; have GE103 := n3_; clear n0_ n1_ n2_ n3_; clear hb hbox hg; have hcz8_0 : w7.cell? ⟨gb103, 0, none⟩ = some (.int .i64 a0_0) := (blk_cell BK103.out 0).trans rfl; have hcz8_1 : w7.cell? ⟨gb103, 1, none⟩ = some (.slice A0_1 l0_1.length c0_1) := (blk_cell BK103.out 1).trans rfl; have hfz8_0 := blk_frozen BK103.out 0; have hfz8_1 := blk_frozen BK103.out 1) | ((with_reducible refine gate_callee (f := 30) rfl ?_); refine goesA_ (some 8) rfl rfl Tryd.func30 (by kernel_rfl) rfl #[.slice A0_1 l0_1.length c0_1, .int .i64 a1] rfl ?_; (with_reducible refine (laws_szInt64SS.calls k _ _ l0_1 a1 t104 _ ?side1 ?side2 A3.out).mono ?_); (case side1 => repeat (first | exact (Kd.C_below HR0_1.out HB.out) | (with_reducible refine Kd.C_alloc ?_ _) | (with_reducible refine Kd.C_drewN ?_ _) | (with_reducible refine Kd.C_drew ?_))); (case side2 => exact HC0_1.out); rintro e w' ⟨rfl, ⟨nd, rfl⟩⟩; refine ⟨_, rfl, ?_⟩))
  go_ret
  exact ⟨by first | rfl | (simp [errW_none, errW_some] <;> rfl) | (simp [*, errW_none, errW_some] <;> rfl), by repeat (first | (with_reducible first | exact HB.out | apply below_alloc | apply pw_below_drewN | apply below_drew1 | refine below_set ?_ GE103.out) | exact HB.out)⟩
/-- The verifier's count of a list. -/
theorem szInt64S_val (l : List Int) (a : Int) (hl : l.length ≤ maxLen) (h0 : 0 ≤ a) (h1 : a ≤ 1048576) : laws_szInt64S.f l a = some (if a < l.length then -1 else a - l.length) := by
  unfold maxLen at hl
  have e : wrap64 (a - (l.length : Int)) = a - l.length := by unfold wrap64; omega
  unfold laws_szInt64S.f
  rw [e]
  by_cases h : a < l.length
  · rw [if_pos h, if_pos (by omega)]
  · rw [if_neg h, if_neg (by omega)]
/-- The verifier's helpers on lists of lists: sizes, copies, equality. -/
theorem rdL_get (l : List (List Int)) (i : Nat) (h : i < l.length) : rd_L1 l (i : Int) = l[i] := by
  show l.getD ((i : Int)).toNat [] = l[i]
  rw [Int.toNat_natCast, List.getD_eq_getElem?_getD, List.getElem?_eq_getElem h]; rfl
def sumLen : List (List Int) → Int
  | [] => 0
  | x :: r => x.length + sumLen r
theorem sumLen_nonneg : ∀ l : List (List Int), 0 ≤ sumLen l
  | [] => by simp [sumLen]
  | x :: r => by have := sumLen_nonneg r; unfold sumLen; omega
theorem sumLen_mem : ∀ (l : List (List Int)) (x : List Int), x ∈ l → (x.length : Int) ≤ sumLen l
  | [], x, h => by simp at h
  | y :: r, x, h => by
    have h0 := sumLen_nonneg r
    unfold sumLen
    rcases List.mem_cons.1 h with rfl | h
    · omega
    · have := sumLen_mem r x h; omega
theorem szInt64SS_l0 (l : List (List Int)) (hl : l.length ≤ maxLen) (hx : ∀ x ∈ l, x.length ≤ maxLen) : ∀ (d i : Nat) (a : Int), i + d = l.length → 0 ≤ a → a ≤ 1048576 → Ev (fun k => laws_szInt64SS.l0 k l a i) (if a < sumLen (l.drop i) then -1 else a - sumLen (l.drop i)) := by
  intro d
  induction d with
  | zero =>
    intro i a hi h0 h1
    refine Ev.step (f := fun _ => some _) (fun k => ?_) (Ev.now _)
    simp only [laws_szInt64SS.l0]
    rw [if_neg (by omega), List.drop_of_length_le (by omega), sumLen, if_neg (by omega)]
    congr 1; omega
  | succ d ih =>
    intro i a hi h0 h1
    have hlt : i < l.length := by omega
    have hn := sumLen_nonneg (l.drop (i + 1))
    rw [List.drop_eq_getElem_cons hlt, sumLen]
    have hxl := hx _ (List.getElem_mem hlt)
    by_cases h : a < l[i].length
    · refine Ev.step (f := fun _ => some _) (fun k => ?_) (Ev.now _)
      simp only [laws_szInt64SS.l0]
      rw [if_pos (by omega), if_pos (by omega), rdL_get l i hlt, szInt64S_val _ a hxl h0 h1, if_pos h, Option.bind_some, if_pos (by omega), if_pos (by omega)]
    · have := ih (i + 1) (a - l[i].length) (by omega) (by omega) (by omega)
      have e : (if a - (l[i].length : Int) < sumLen (l.drop (i + 1)) then (-1 : Int) else a - (l[i].length : Int) - sumLen (l.drop (i + 1))) = if a < (l[i].length : Int) + sumLen (l.drop (i + 1)) then -1 else a - ((l[i].length : Int) + sumLen (l.drop (i + 1))) := by
        by_cases h2 : a < (l[i].length : Int) + sumLen (l.drop (i + 1))
        · rw [if_pos h2, if_pos (by omega)]
        · rw [if_neg h2, if_neg (by omega)]; omega
      rw [e] at this
      refine Ev.step (fun k => ?_) this
      simp only [laws_szInt64SS.l0]
      rw [if_pos (by omega), if_pos (by omega), rdL_get l i hlt, szInt64S_val _ a hxl h0 h1, if_neg h, Option.bind_some, if_neg (by omega), wrap_next hlt (by unfold maxLen at hl; omega)]
/-- The size that is left: -1, or the lists are short. -/
theorem szInt64SS_ev (l : List (List Int)) (hl : l.length ≤ maxLen) (hx : ∀ x ∈ l, x.length ≤ maxLen) (a : Int) (h0 : 0 ≤ a) (h1 : a ≤ 1048576) :
    ∃ v, Ev (fun k => laws_szInt64SS.f k l a) v ∧ (v = -1 ∨ 0 ≤ v ∧ v ≤ a ∧ (l.length : Int) ≤ a ∧ (∀ x ∈ l, (x.length : Int) ≤ a) ∧ v = a - l.length - sumLen l) := by
  have e : wrap64 (a - (l.length : Int)) = a - l.length := by unfold maxLen at hl; unfold wrap64; omega
  by_cases h : a < l.length
  · exact ⟨-1, Ev.congr (fun k => by unfold laws_szInt64SS.f; rw [e, if_pos (by omega)]) (Ev.now _), .inl rfl⟩
  · have := szInt64SS_l0 l hl hx l.length 0 (a - l.length) (by omega) (by omega) (by omega)
    rw [List.drop_zero] at this
    refine ⟨_, Ev.congr (fun k => ?_) this, ?_⟩
    · unfold laws_szInt64SS.f; rw [e, if_neg (by omega)]; rfl
    · have hn := sumLen_nonneg l
      by_cases h2 : a - (l.length : Int) < sumLen l
      · left; rw [if_pos h2]
      · right
        rw [if_neg h2]
        refine ⟨by omega, by omega, by omega, fun x hm => ?_, rfl⟩
        have := sumLen_mem l x hm
        omega
theorem toInt64SS_l0 (l : List (List Int)) (hl : l.length ≤ 1048576) (hx : ∀ x ∈ l, x.length ≤ 1048576) : ∀ (d i : Nat) (y : List (List Int)), i + d = l.length → y.length = l.length → y.take i = l.take i → Ev (fun k => laws_toInt64SS.l0 k l y i) l := by
  intro d
  induction d with
  | zero =>
    intro i y hi hyl ht
    refine Ev.step (f := fun _ => some l) (fun k => ?_) (Ev.now _)
    simp only [laws_toInt64SS.l0]
    rw [if_neg (by omega)]
    have : i = l.length := by omega
    rw [this, List.take_of_length_le (by omega), List.take_of_length_le (by omega)] at ht
    rw [ht]
  | succ d ih =>
    intro i y hi hyl ht
    have hlt : i < l.length := by omega
    have hb := hx _ (List.getElem_mem hlt)
    refine Ev.step (f := fun k => (laws_toInt64S.f k l[i]).bind fun t => laws_toInt64SS.l0 k l (y.set i t) ((i + 1 : Nat) : Int)) (fun k => ?_) (Ev.bind (toInt64S_ev l[i] (by omega)) (ih (i + 1) _ (by omega) (by simpa using hyl) (take_set_next l y i hlt hyl ht)))
    simp only [laws_toInt64SS.l0]
    rw [if_pos (by omega), if_pos (by omega), rdL_get l i hlt, wrap_next hlt (by omega), Int.toNat_natCast]
    refine congrArg _ (funext fun t => ?_)
    rw [if_pos (by omega)]
theorem toInt64SS_ev (l : List (List Int)) (hl : l.length ≤ 1048576) (hx : ∀ x ∈ l, x.length ≤ 1048576) : Ev (fun k => laws_toInt64SS.f k l) l := by
  refine Ev.congr (f := fun k => laws_toInt64SS.l0 k l (List.replicate l.length []) ((0 : Nat) : Int)) (fun k => ?_) (toInt64SS_l0 l hl hx l.length 0 _ (by omega) (by simp) (by simp))
  unfold laws_toInt64SS.f
  rw [if_pos (by omega), if_pos (by omega), Int.toNat_natCast]; rfl
theorem eqInt64SS_l0 (x y : List (List Int)) (hl : x.length = y.length) (hx : x.length ≤ 9223372036854775807) (hb : ∀ z ∈ x, z.length ≤ 9223372036854775807) : ∀ (d i : Nat), i + d = x.length → x.take i = y.take i → Ev (fun k => laws_eqInt64SS.l0 k x y i) (decide (x = y)) := by
  intro d
  induction d with
  | zero =>
    intro i hi ht
    refine Ev.step (f := fun _ => some (decide (x = y))) (fun k => ?_) (Ev.now _)
    simp only [laws_eqInt64SS.l0]
    rw [if_neg (by omega)]
    have : i = x.length := by omega
    rw [this, List.take_of_length_le (by omega), List.take_of_length_le (by omega)] at ht
    simp [ht]
  | succ d ih =>
    intro i hi ht
    have hlt : i < x.length := by omega
    have hz := eqInt64S_ev x[i] (y[i]'(by omega)) (hb _ (List.getElem_mem hlt))
    by_cases he : x[i] = y[i]'(by omega)
    · rw [decide_eq_true he] at hz
      refine Ev.step (f := fun k => (laws_eqInt64S.f k x[i] (y[i]'(by omega))).bind fun t => if t = true then laws_eqInt64SS.l0 k x y ((i + 1 : Nat) : Int) else some false) (fun k => ?_) (Ev.bind hz (Ev.congr (fun k => by rw [if_pos rfl]) (ih (i + 1) (by omega) ?_)))
      · simp only [laws_eqInt64SS.l0]
        rw [if_pos (by omega), if_pos (by omega), if_pos (by omega), wrap_next hlt (by omega), rdL_get x i hlt, rdL_get y i (by omega)]
      · rw [List.take_succ_eq_append_getElem hlt, List.take_succ_eq_append_getElem (by omega), ht, he]
    · rw [decide_eq_false he] at hz
      have hne : x ≠ y := fun h => he (by subst h; rfl)
      rw [decide_eq_false hne]
      refine Ev.step (f := fun k => (laws_eqInt64S.f k x[i] (y[i]'(by omega))).bind fun t => if t = true then laws_eqInt64SS.l0 k x y ((i + 1 : Nat) : Int) else some false) (fun k => ?_) (Ev.bind hz (Ev.congr (fun k => by rw [if_neg (by simp)]) (Ev.now _)))
      simp only [laws_eqInt64SS.l0]
      rw [if_pos (by omega), if_pos (by omega), if_pos (by omega), wrap_next hlt (by omega), rdL_get x i hlt, rdL_get y i (by omega)]
theorem eqInt64SS_ev (x y : List (List Int)) (hx : x.length ≤ 9223372036854775807) (hb : ∀ z ∈ x, z.length ≤ 9223372036854775807) : Ev (fun k => laws_eqInt64SS.f k x y) (decide (x = y)) := by
  by_cases h : x.length = y.length
  · refine Ev.congr (f := fun k => laws_eqInt64SS.l0 k x y ((0 : Nat) : Int)) (fun k => ?_) (eqInt64SS_l0 x y h hx hb x.length 0 (by omega) (by simp))
    unfold laws_eqInt64SS.f
    rw [if_pos (by omega)]; rfl
  · refine Ev.congr (f := fun _ => some (decide (x = y))) (fun k => ?_) (Ev.now _)
    unfold laws_eqInt64SS.f
    rw [if_neg (by omega)]
    have : x ≠ y := fun e => h (by rw [e])
    simp [this]
theorem eqInt64SS_self (x : List (List Int)) (hx : x.length ≤ 9223372036854775807) (hb : ∀ z ∈ x, z.length ≤ 9223372036854775807) : Ev (fun k => laws_eqInt64SS.f k x x) true := by
  have := eqInt64SS_ev x x hx hb
  simpa using this
/-- The reference's 'in' is the program's 'within'. -/
theorem in_inW (n a b : Int) : spec_l01In.f n a b = some (inW n a b) := by
  unfold spec_l01In.f inW
  by_cases h : a ≤ n <;> simp [h]
/-- The reference's test of nets is the program's. -/
theorem rd_two0 (a b : Int) : rd [a, b] 0 = a := rfl
theorem rd_two1 (a b : Int) : rd [a, b] 1 = b := rfl
theorem len_two {e : List Int} (h : e.length = 2) : ∃ a b, e = [a, b] := by
  match e, h with
  | [a, b], _ => exact ⟨a, b, rfl⟩
theorem rising_two (a b lo ub : Int) : rising [a, b] lo ub = (inW a lo ub && (inW b lo ub && !decide (b ≤ a))) := by
  simp [rising, risingFrom]
theorem cmp_two (a b c d : Int) : cmpL [a, b] [c, d] < 0 ↔ a < c ∨ a = c ∧ b < d := by
  simp only [cmpL]
  by_cases h1 : a < c
  · simp [h1]
  · by_cases h2 : c < a
    · simp [h1, h2]; omega
    · have : a = c := by omega
      subst this
      by_cases h3 : b < d
      · simp [h3]
      · by_cases h4 : d < b <;> simp [h3, h4]
theorem edge_good {p : Int} {e : List Int} (h : edgeBad p e = false) : ∃ a b, e = [a, b] ∧ inW a 0 (wrap64 (p - 1)) = true ∧ inW b 0 (wrap64 (p - 1)) = true ∧ ¬ b ≤ a := by
  unfold edgeBad at h
  simp only [Bool.or_eq_false_iff, Bool.not_eq_false', decide_eq_true_eq] at h
  obtain ⟨a, b, rfl⟩ := len_two h.1
  rw [rising_two] at h
  simp only [Bool.and_eq_true, Bool.not_eq_true', decide_eq_false_iff_not] at h
  exact ⟨a, b, rfl, h.2.1, h.2.2.1, h.2.2.2⟩
theorem l10Is_l0 (p : Int) (l : List (List Int)) (hl : l.length ≤ 9223372036854775807) : ∀ (d i : Nat), i + d = l.length → (∀ e ∈ l.take i, edgeBad p e = false) →
    Ev (fun k => spec_l10Is.l0 k i p l) (!(l.drop i).any (edgeBad p) && sortedBy cmpL (l.drop (i - 1))) := by
  intro d
  induction d with
  | zero =>
    intro i hi hg
    refine Ev.step (f := fun _ => some _) (fun k => ?_) (Ev.now _)
    simp only [spec_l10Is.l0]
    rw [if_neg (by omega), List.drop_of_length_le (by omega)]
    have : sortedBy cmpL (l.drop (i - 1)) = true := by
      by_cases h0 : i = 0
      · have : l = [] := List.eq_nil_of_length_eq_zero (by omega)
        subst this; simp [sortedBy]
      · rw [List.drop_eq_getElem_cons (by omega), List.drop_of_length_le (by omega)]; rfl
    rw [this]; rfl
  | succ d ih =>
    intro i hi hg
    have hlt : i < l.length := by omega
    have e1 : l.drop i = l[i] :: l.drop (i + 1) := List.drop_eq_getElem_cons hlt
    have hany : (l.drop i).any (edgeBad p) = (edgeBad p l[i] || (l.drop (i + 1)).any (edgeBad p)) := by rw [e1]; rfl
    rw [hany]
    by_cases hb : edgeBad p l[i] = true
    · -- not an edge
      rw [hb]
      refine Ev.congr (g := fun k => spec_l10Is.l0 k i p l) (f := fun k => spec_l10Is.l0 k i p l) (fun _ => rfl) ?_
      show Ev _ (!(true || _) && _)
      simp only [Bool.true_or, Bool.not_true, Bool.false_and]
      have hj : Ev (fun k => spec_l10Is.j2 k i l[i] true p l) false := Ev.step (f := fun _ => some false) (fun k => by simp only [spec_l10Is.j2]; rw [if_pos trivial]) (Ev.now _)
      refine Ev.step (f := fun k => spec_l10Is.j2 k i l[i] true p l) (fun k => ?_) hj
      simp only [spec_l10Is.l0]
      rw [if_pos (by omega), if_pos (by omega), rdL_get l i hlt]
      by_cases h2 : l[i].length = 2
      · obtain ⟨a, b, hab⟩ := len_two h2
        rw [hab] at hb ⊢
        rw [if_pos (by simp), if_pos (by simp), rd_two0, in_inW, Option.bind_some]
        by_cases ha : inW a 0 (wrap64 (p - 1)) = true
        · rw [if_pos ha, if_pos (by simp), rd_two1, in_inW, Option.bind_some]
          by_cases hb' : inW b 0 (wrap64 (p - 1)) = true
          · rw [if_pos hb']
            have : decide (a ≥ b) = true := by
              unfold edgeBad at hb
              rw [rising_two, ha, hb'] at hb
              simpa using hb
            rw [this]
          · rw [if_neg hb']
        · rw [if_neg ha]
      · rw [if_neg (by omega)]
    · have hb' : edgeBad p l[i] = false := by simpa using hb
      obtain ⟨a, b, hab, ha, hbb, hlt2⟩ := edge_good hb'
      have hg' : ∀ e ∈ l.take (i + 1), edgeBad p e = false := by
        intro e he
        rw [List.take_succ_eq_append_getElem hlt] at he
        rcases List.mem_append.1 he with h | h
        · exact hg e h
        · rw [List.mem_singleton.1 h]; exact hb'
      have ih1 := ih (i + 1) (by omega) hg'
      rw [Nat.add_sub_cancel] at ih1
      rw [hb', Bool.false_or]
      -- to the second test
      have step : ∀ v, Ev (fun k => spec_l10Is.j2 k i [a, b] false p l) v → Ev (fun k => spec_l10Is.l0 k i p l) v := by
        intro v hv
        refine Ev.step (f := fun k => spec_l10Is.j2 k i [a, b] false p l) (fun k => ?_) hv
        simp only [spec_l10Is.l0]
        rw [if_pos (by omega), if_pos (by omega), rdL_get l i hlt, hab, if_pos (by simp), if_pos (by simp), rd_two0, rd_two1, in_inW, in_inW, ha, hbb, Option.bind_some, if_pos rfl, if_pos (by simp), Option.bind_some, if_pos rfl, decide_eq_false (by omega)]
      refine step _ ?_
      by_cases h0 : i = 0
      · subst h0
        refine Ev.step (fun k => ?_) ih1
        simp only [spec_l10Is.j2]
        rw [if_neg (by simp), if_neg (by omega), wrap_next hlt hl]
      · have hp : i - 1 < l.length := by omega
        have hpm : l[i - 1] ∈ l.take i := by
          rw [List.mem_take_iff_getElem]
          exact ⟨i - 1, by omega, rfl⟩
        obtain ⟨c, d', hcd, _, _, _⟩ := edge_good (hg _ hpm)
        have ew : wrap64 ((i : Int) - 1) = ((i - 1 : Nat) : Int) := by unfold wrap64; omega
        have e2 : l.drop (i - 1) = [c, d'] :: [a, b] :: l.drop (i + 1) := by
          rw [List.drop_eq_getElem_cons hp, hcd, show i - 1 + 1 = i by omega, e1, hab]
        rw [e2]
        rw [e1, hab] at ih1
        have es : sortedBy cmpL ([c, d'] :: [a, b] :: l.drop (i + 1)) = (!decide (cmpL [a, b] [c, d'] < 0) && sortedBy cmpL ([a, b] :: l.drop (i + 1))) := rfl
        rw [es]
        by_cases h1 : c > a
        · have : cmpL [a, b] [c, d'] < 0 := (cmp_two a b c d').2 (.inl h1)
          rw [decide_eq_true this]
          simp only [Bool.not_true, Bool.false_and, Bool.and_false]
          refine Ev.step (f := fun _ => some false) (fun k => ?_) (Ev.now _)
          simp only [spec_l10Is.j2]
          rw [if_neg (by simp), if_pos (by omega), ew, if_pos (by omega), if_pos (by omega), rdL_get l (i - 1) hp, hcd, if_pos (by simp), if_pos (by simp), rd_two0, rd_two0, if_pos h1]
        · by_cases h2 : c = a
          · by_cases h3 : d' > b
            · have : cmpL [a, b] [c, d'] < 0 := (cmp_two a b c d').2 (.inr ⟨h2.symm, h3⟩)
              rw [decide_eq_true this]
              simp only [Bool.not_true, Bool.false_and, Bool.and_false]
              refine Ev.step (f := fun _ => some false) (fun k => ?_) (Ev.now _)
              simp only [spec_l10Is.j2]
              rw [if_neg (by simp), if_pos (by omega), ew, if_pos (by omega), if_pos (by omega), rdL_get l (i - 1) hp, hcd, if_pos (by simp), if_pos (by simp), rd_two0, rd_two0, if_neg h1, if_pos h2, if_pos (by simp), if_pos (by simp), rd_two1, rd_two1, if_pos h3]
            · have : ¬ cmpL [a, b] [c, d'] < 0 := fun h => by
                rcases (cmp_two a b c d').1 h with h | h <;> omega
              rw [decide_eq_false this]
              refine Ev.step (fun k => ?_) ih1
              simp only [spec_l10Is.j2]
              rw [if_neg (by simp), if_pos (by omega), ew, if_pos (by omega), if_pos (by omega), rdL_get l (i - 1) hp, hcd, if_pos (by simp), if_pos (by simp), rd_two0, rd_two0, if_neg h1, if_pos h2, if_pos (by simp), if_pos (by simp), rd_two1, rd_two1, if_neg h3, wrap_next hlt hl]
          · have : ¬ cmpL [a, b] [c, d'] < 0 := fun h => by
              rcases (cmp_two a b c d').1 h with h | h <;> omega
            rw [decide_eq_false this]
            refine Ev.step (fun k => ?_) ih1
            simp only [spec_l10Is.j2]
            rw [if_neg (by simp), if_pos (by omega), ew, if_pos (by omega), if_pos (by omega), rdL_get l (i - 1) hp, hcd, if_pos (by simp), if_pos (by simp), rd_two0, rd_two0, if_neg h1, if_neg h2, wrap_next hlt hl]
theorem l10Is_ev (p : Int) (l : List (List Int)) (hl : l.length ≤ 9223372036854775807) : Ev (fun k => spec_l10Is.f k p l) (isNetV p l) := by
  unfold spec_l10Is.f isNetV
  rw [in_inW]
  have hj : Ev (fun k => spec_l10Is.j0 k true p l) false := Ev.step (f := fun _ => some false) (fun k => by simp only [spec_l10Is.j0]; rw [if_pos trivial]) (Ev.now _)
  by_cases h1 : inW p 2 8 = true
  · rw [h1]
    by_cases h2 : (l.length : Int) > 10
    · rw [decide_eq_true h2]
      exact Ev.congr (fun k => by rw [Option.bind_some, if_pos rfl]) hj
    · rw [decide_eq_false h2]
      have := l10Is_l0 p l hl l.length 0 (by omega) (by simp)
      rw [List.drop_zero] at this
      refine Ev.congr (f := fun k => spec_l10Is.j0 k false p l) (fun k => by rw [Option.bind_some, if_pos rfl]) (Ev.step (fun k => ?_) this)
      simp only [spec_l10Is.j0]
      rw [if_neg (by simp)]; rfl
  · have h1' : inW p 2 8 = false := by simpa using h1
    rw [h1']
    exact Ev.congr (fun k => by rw [Option.bind_some, if_neg (by simp)]) hj
/-- The verifier's helpers on nets. -/
theorem szNet_ev (p : Int) (l : List (List Int)) (hl : l.length ≤ maxLen ∧ ∀ x ∈ l, x.length ≤ maxLen ∧ ∀ y ∈ x, (Lit.int .i64 y).wf = true) :
    ∃ v, Ev (fun k => laws_szNet.f k p l 1048576) v ∧ (v = -1 ∨ 0 ≤ v ∧ l.length ≤ 1048576 ∧ ∀ x ∈ l, x.length ≤ 1048576) := by
  obtain ⟨v, hv, h⟩ := szInt64SS_ev l hl.1 (fun x hx => (hl.2 x hx).1) 1048576 (by omega) (by omega)
  unfold laws_szNet.f
  rcases h with rfl | ⟨h0, _, h1, h2, _⟩
  · exact ⟨-1, Ev.bind hv (Ev.congr (fun k => by rw [if_pos (by omega)]) (Ev.now _)), .inl rfl⟩
  · exact ⟨v, Ev.bind hv (Ev.congr (fun k => by rw [if_neg (by omega)]) (Ev.now _)), .inr ⟨h0, by omega, fun x hx => by have := h2 x hx; omega⟩⟩
theorem toNet_ev (p : Int) (l : List (List Int)) (hl : l.length ≤ 1048576) (hx : ∀ x ∈ l, x.length ≤ 1048576) : Ev (fun k => laws_toNet.f k p l) (p, l) := by
  unfold laws_toNet.f
  exact Ev.bind (toInt64SS_ev l hl hx) (Ev.now _)
theorem eqNet_self (p : Int) (l : List (List Int)) (hl : l.length ≤ 1048576) (hx : ∀ x ∈ l, x.length ≤ 1048576) : Ev (fun k => laws_eqNet.f k p l p l) true := by
  unfold laws_eqNet.f
  refine Ev.congr (fun k => by rw [if_pos rfl]) (Ev.bind (eqInt64SS_self l (by omega) (fun z hz => by have := hx z hz; omega)) (Ev.congr (fun k => by rw [if_pos rfl]) (Ev.now _)))
-- What the program's 'reached' and the reference's 'l10Reached' compute: the least set of points that holds one point and is closed under the accepted edges.
def NetEdges (l : List (List Int)) : Prop := l.length ≤ 10 ∧ ∀ e ∈ l, ∃ a b : Nat, e = [(a : Int), (b : Int)] ∧ a < 8 ∧ b < 8
def ea (l : List (List Int)) (i : Nat) : Nat := (rd (rd_L1 l i) 0).toNat
def eb (l : List (List Int)) (i : Nat) : Nat := (rd (rd_L1 l i) 1).toNat
theorem edge_at {l : List (List Int)} (h : NetEdges l) {i : Nat} (hi : i < l.length) : rd_L1 l i = [(ea l i : Int), (eb l i : Int)] ∧ ea l i < 8 ∧ eb l i < 8 := by
  have e : rd_L1 l (i : Int) = l[i] := by
    show l.getD ((i : Int)).toNat [] = l[i]
    rw [Int.toNat_natCast, List.getD_eq_getElem?_getD, List.getElem?_eq_getElem hi]; rfl
  obtain ⟨a, b, hab, ha, hb⟩ := h.2 l[i] (List.getElem_mem hi)
  unfold ea eb
  rw [e, hab]
  have h0 : rd [(a : Int), (b : Int)] 0 = (a : Int) := rfl
  have h1 : rd [(a : Int), (b : Int)] 1 = (b : Int) := rfl
  rw [h0, h1, Int.toNat_natCast, Int.toNat_natCast]
  exact ⟨rfl, ha, hb⟩
def ClosedUnder (A : Nat → Bool) (l : List (List Int)) (m : Nat) : Prop := ∀ i, i < l.length → A i = true → m.testBit (ea l i) = m.testBit (eb l i)
def Under (A : Nat → Bool) (l : List (List Int)) (f m : Nat) : Prop := ∀ M : Nat, M.testBit f = true → ClosedUnder A l M → ∀ x, m.testBit x = true → M.testBit x = true
def LeastSet (A : Nat → Bool) (l : List (List Int)) (f c : Nat) : Prop := c < 256 ∧ c.testBit f = true ∧ ClosedUnder A l c ∧ Under A l f c
theorem LeastSet.eq {A : Nat → Bool} {l : List (List Int)} {f c d : Nat} (h : LeastSet A l f c) (k : LeastSet A l f d) : c = d := by
  apply Nat.eq_of_testBit_eq
  intro x
  rw [Bool.eq_iff_iff]
  exact ⟨h.2.2.2 d k.2.1 k.2.2.1 x, k.2.2.2 c h.2.1 h.2.2.1 x⟩
theorem LeastSet.congr {A B : Nat → Bool} {l : List (List Int)} {f c : Nat} (h : LeastSet A l f c) (e : ∀ i, i < l.length → A i = B i) : LeastSet B l f c := by
  refine ⟨h.1, h.2.1, fun i hi hb => h.2.2.1 i hi (by rw [e i hi]; exact hb), fun M h1 h2 => h.2.2.2 M h1 (fun i hi ha => h2 i hi (by rw [← e i hi]; exact ha))⟩
theorem two_lt {a : Nat} (h : a < 8) : 2 ^ a < 256 := by
  have : 2 ^ a < 2 ^ 8 := Nat.pow_lt_pow_right (by omega) h
  omega
theorem or_lt {m a : Nat} (hm : m < 256) (ha : a < 256) : m ||| a < 256 := by
  have := Nat.or_lt_two_pow (n := 8) (x := m) (y := a) (by omega) (by omega)
  omega
theorem bit_or2 (m a b x : Nat) : ((m ||| 2 ^ a) ||| 2 ^ b).testBit x = (m.testBit x || decide (a = x) || decide (b = x)) := by
  rw [Nat.testBit_or, Nat.testBit_or, Nat.testBit_two_pow, Nat.testBit_two_pow]
theorem under_or {A : Nat → Bool} {l : List (List Int)} {f m i : Nat} (h : Under A l f m) (hi : i < l.length) (hA : A i = true) (hm : m.testBit (ea l i) = true ∨ m.testBit (eb l i) = true) : Under A l f ((m ||| 2 ^ ea l i) ||| 2 ^ eb l i) := by
  intro M hM hC x hx
  rw [bit_or2] at hx
  have hc := hC i hi hA
  have hu := h M hM hC
  simp only [Bool.or_eq_true, decide_eq_true_eq] at hx
  rcases hx with (hx | rfl) | rfl
  · exact hu x hx
  · rcases hm with hm | hm
    · exact hu _ hm
    · rw [hc]; exact hu _ hm
  · rcases hm with hm | hm
    · rw [← hc]; exact hu _ hm
    · exact hu _ hm
theorem or2_le (m a b : Nat) : m ≤ (m ||| 2 ^ a) ||| 2 ^ b := Nat.le_trans Nat.left_le_or Nat.left_le_or
theorem or2_ne {m a b : Nat} (h : m.testBit a ≠ m.testBit b) : m < (m ||| 2 ^ a) ||| 2 ^ b := by
  refine Nat.lt_of_le_of_ne (or2_le m a b) fun e => h ?_
  have h1 := bit_or2 m a b a
  have h2 := bit_or2 m a b b
  rw [← e] at h1 h2
  rw [h1, h2]; simp
theorem bit_mono_or (m a b f : Nat) (h : m.testBit f = true) : ((m ||| 2 ^ a) ||| 2 ^ b).testBit f = true := by rw [bit_or2, h]; rfl
theorem stepS (p : Int) (l : List (List Int)) (s m' a b i : Nat) (more : Bool) (k : Nat) (hs : s < 4611686018427387904) (hm' : m' < 256) (ha : a < 8) (hb : b < 8) (hlt : i < l.length) (hlen : l.length ≤ 10) (he : rd_L1 l i = [(a : Int), (b : Int)]) :
    spec_l10Reached.l1 (k + 1) s m' more i p l = if s.testBit i = true then (if m'.testBit a = m'.testBit b then spec_l10Reached.l1 k s m' more ((i + 1 : Nat) : Int) p l else spec_l10Reached.l1 k s (((m' ||| 2 ^ a) ||| 2 ^ b : Nat) : Int) true ((i + 1 : Nat) : Int) p l) else spec_l10Reached.l1 k s m' more ((i + 1 : Nat) : Int) p l := by
  have t1 := two_lt ha
  have t2 := two_lt hb
  have t3 := or_lt hm' t1
  have wn : wrap64 ((i : Int) + 1) = ((i + 1 : Nat) : Int) := by unfold wrap64; omega
  have r0 : rd [(a : Int), (b : Int)] 0 = (a : Int) := rfl
  have r1 : rd [(a : Int), (b : Int)] 1 = (b : Int) := rfl
  have b0 := bit_nat s i (by omega) (by omega)
  have b1 := bit_nat m' a (by omega) (by omega)
  have b2 := bit_nat m' b (by omega) (by omega)
  have s1 := shl_nat a (by omega)
  have s2 := shl_nat b (by omega)
  have o1 := bits_or_nat m' (2 ^ a) (by omega) (by omega)
  have o2 := bits_or_nat (m' ||| 2 ^ a) (2 ^ b) (by omega) (by omega)
  have u0 := u64_nat a (by omega)
  have u1 := u64_nat b (by omega)
  have u2 := u64_nat i (by omega)
  have n0 : (0 : Int) ≤ (a : Int) := by omega
  have n1 : (0 : Int) ≤ (b : Int) := by omega
  have n2 : (0 : Int) ≤ (i : Int) := by omega
  have n3 : (i : Int) < (l.length : Int) := by omega
  have l0 : (0 : Int) < (([(a : Int), (b : Int)] : List Int).length : Int) := by simp
  have l1 : (1 : Int) < (([(a : Int), (b : Int)] : List Int).length : Int) := by simp
  generalize (2 ^ a : Nat) = pa at *
  generalize (2 ^ b : Nat) = pb at *
  simp only [spec_l10Reached.l1]
  rw [if_pos n3, if_pos n2, he, if_pos l0, r0, u0, if_pos n0, if_pos l1]
  rw [r1, u1, if_pos n1, u2, if_pos n2]
  rw [b0, b1, b2, s1, s2, o1, o2, wn]
  cases s.testBit i <;> cases m'.testBit a <;> cases m'.testBit b <;> simp
theorem reachS_out (p : Int) (l : List (List Int)) (hl : NetEdges l) (s f : Nat) (hs : s < 4611686018427387904) : ∀ (n m : Nat), 256 - m ≤ n → m.testBit f = true → Under (fun i => s.testBit i) l f m → m < 256 →
    ∃ c : Nat, Ev (fun k => spec_l10Reached.l0 k s m true p l) (c : Int) ∧ LeastSet (fun i => s.testBit i) l f c := by
  intro n
  induction n with
  | zero => intro m h _ _ h2; omega
  | succ n ih =>
    intro m hn hf hu hm
    have pass : ∀ (d i : Nat), i + d = l.length → ∀ (m' : Nat) (more : Bool), m'.testBit f = true → Under (fun i => s.testBit i) l f m' → m' < 256 → (more = false → m' = m ∧ ∀ j, j < i → s.testBit j = true → m.testBit (ea l j) = m.testBit (eb l j)) → (more = true → m < m') →
        ∃ c : Nat, Ev (fun k => spec_l10Reached.l1 k s m' more i p l) (c : Int) ∧ LeastSet (fun i => s.testBit i) l f c := by
      intro d
      induction d with
      | zero =>
        intro i hi m' more hf' hu' hm' h0 h1
        have st : ∀ k, spec_l10Reached.l1 (k + 1) s m' more i p l = spec_l10Reached.l0 k s m' more p l := fun k => by
          simp only [spec_l10Reached.l1]; rw [if_neg (by omega)]
        cases more with
        | false =>
          obtain ⟨rfl, hc⟩ := h0 rfl
          refine ⟨m', Ev.step st (Ev.step (f := fun _ => some _) (fun k => ?_) (Ev.now _)), hm', hf', fun j hj ha => hc j (by omega) ha, hu'⟩
          simp only [spec_l10Reached.l0]; rw [if_neg (by simp)]
        | true =>
          have hlt := h1 rfl
          obtain ⟨c, hc, hL⟩ := ih m' (by omega) hf' hu' hm'
          exact ⟨c, Ev.step st hc, hL⟩
      | succ d ihd =>
        intro i hi m' more hf' hu' hm' h0 h1
        have hlt : i < l.length := by omega
        obtain ⟨he, ha, hb⟩ := edge_at hl hlt
        have step := fun k => stepS p l s m' (ea l i) (eb l i) i more k hs hm' ha hb hlt hl.1 he
        by_cases hA : s.testBit i = true
        · by_cases hq : m'.testBit (ea l i) = m'.testBit (eb l i)
          · obtain ⟨c, hc, hL⟩ := ihd (i + 1) (by omega) m' more hf' hu' hm' (fun hm0 => ⟨(h0 hm0).1, fun j hj hsj => by
              by_cases hji : j < i
              · exact (h0 hm0).2 j hji hsj
              · obtain rfl : j = i := by omega
                rw [← (h0 hm0).1]; exact hq⟩) h1
            exact ⟨c, Ev.step (fun k => by rw [step k, if_pos hA, if_pos hq]) hc, hL⟩
          · have hor : m'.testBit (ea l i) = true ∨ m'.testBit (eb l i) = true := by
              cases h3 : m'.testBit (ea l i) <;> cases h4 : m'.testBit (eb l i) <;> simp_all
            have hne := or2_ne hq
            have hle : m ≤ m' := by
              cases more with
              | false => rw [(h0 rfl).1]; exact Nat.le_refl _
              | true => exact Nat.le_of_lt (h1 rfl)
            obtain ⟨c, hc, hL⟩ := ihd (i + 1) (by omega) _ true (bit_mono_or m' (ea l i) (eb l i) f hf') (under_or hu' hlt hA hor) (or_lt (or_lt hm' (two_lt ha)) (two_lt hb)) (fun h => by simp at h) (fun _ => by omega)
            exact ⟨c, Ev.step (fun k => by rw [step k, if_pos hA, if_neg hq]) hc, hL⟩
        · obtain ⟨c, hc, hL⟩ := ihd (i + 1) (by omega) m' more hf' hu' hm' (fun hm0 => ⟨(h0 hm0).1, fun j hj hsj => by
              by_cases hji : j < i
              · exact (h0 hm0).2 j hji hsj
              · obtain rfl : j = i := by omega
                exact absurd hsj hA⟩) h1
          exact ⟨c, Ev.step (fun k => by rw [step k, if_neg hA]) hc, hL⟩
    obtain ⟨c, hc, hL⟩ := pass l.length 0 (by omega) m false hf hu hm (fun _ => ⟨rfl, fun j hj => by omega⟩) (fun h => by simp at h)
    refine ⟨c, Ev.step (fun k => ?_) hc, hL⟩
    simp only [spec_l10Reached.l0]; rw [if_pos trivial]; rfl
-- A net's edges.
theorem netEdges {p : Int} {l : List (List Int)} (h : isNetV p l = true) : NetEdges l ∧ 2 ≤ p ∧ p ≤ 8 := by
  unfold isNetV at h
  simp only [Bool.and_eq_true, Bool.not_eq_true', decide_eq_false_iff_not] at h
  obtain ⟨⟨⟨h1, h2⟩, h3⟩, _⟩ := h
  unfold inW at h1
  simp only [Bool.and_eq_true, decide_eq_true_eq] at h1
  refine ⟨⟨by omega, fun e he => ?_⟩, h1.1, h1.2⟩
  have hb : edgeBad p e = false := by
    have := List.any_eq_false.1 h3 e he
    simpa using this
  obtain ⟨a, b, rfl, ha, hb2, _⟩ := edge_good hb
  unfold inW at ha hb2
  simp only [Bool.and_eq_true, decide_eq_true_eq] at ha hb2
  have e : wrap64 (p - 1) = p - 1 := by unfold wrap64; omega
  rw [e] at ha hb2
  refine ⟨a.toNat, b.toNat, ?_, by omega, by omega⟩
  rw [Int.toNat_of_nonneg ha.1, Int.toNat_of_nonneg hb2.1]
/-! ### impl_chosen: function 70 -/
-- EXTERNAL: by hand
def chosenTo (p : Int → Bool) : Nat → List Int
  | 0 => []
  | k + 1 => if p (k : Int) then chosenTo p k ++ [(k : Int)] else chosenTo p k
theorem chosenTo_le (p : Int → Bool) : ∀ k, (chosenTo p k).length ≤ k
  | 0 => Nat.le_refl _
  | k + 1 => by
    have := chosenTo_le p k
    unfold chosenTo
    split
    · simp; omega
    · omega
set_option maxHeartbeats 4000000 in
set_option maxRecDepth 100000 in
theorem impl_chosen.calls (g : Nat) (lb : Array Value) (q : Int → Prop) (p : Int → Bool) (eg : ∀ args w, (callFunc g args).run Tryd.prog w = .ok (.enter g args) w)
    (n : Int) (w : World) (hp : PredK Tryd.prog g lb (Kd.int .i64) q p w) (hq : ∀ x, 0 ≤ x → x < n → q x) (hn : n ≤ 17592186044416) :
    Calls Tryd.prog 70 #[.int .i64 n, .func (.func g) #[] lb] w fun e w' => ∃ v0_ : Value, e = .returned v0_ ∧ Kd.R (Kd.int .i64) 2 w' w.heap.size (fun _ => True) v0_ (chosenTo p n.toNat) ∧ Below w.heap.size w w' := by
  have HP := Aside0.mk hp
  have HQ := Aside0.mk hq
  have HB0 := Aside0.mk (Below.refl w.heap.size w)
  clear hp hq
  go_enter Tryd.func70, Tryd.ntmps70
  go_wp2_with (first | ((with_reducible refine gate_dst (N := 7) rfl ?_); refine Kd.R_lit (Kd.int .i64) _ 2 ?hg (N := 7) ?hd (xs := ([] : List Int)) (inner := []) (ok := fun _ => True) (okp := fun _ => True) ?hr ?hp (fun _ hk => hk) trivial (Below.refl _ _) (Nat.le_refl _) (by simp) ?_; (case hd => rfl); (case hg => rfl); (case hr => first | (go_simp; done) | (go_simp; rfl)); (case hp => exact (Reps.none _ _)); intro v0 w0 ho hb hg_ hnew_; have HO0 := Aside0.mk ho; have HBl := Aside0.mk hb; clear hg_ hnew_ ho hb))
  go_loopg [5, 9] n.toNat (fun gg s5 s9 wr => ∃ kk : Nat, (kk : Int) ≤ max n 0 ∧ n.toNat - kk ≤ gg ∧ s9 = .int .i64 kk ∧ Aside0 (Kd.R (Kd.int .i64) 2 wr w.heap.size (fun _ => True) s5 (chosenTo p kk)) ∧ Aside0 (Below w.heap.size w wr))
  case atStart => exact ⟨0, by omega, by omega, rfl, ⟨HO0.out⟩, ⟨HBl.out⟩⟩
  case round =>
    obtain ⟨kk, hkk, hg, rfl, HO, HB⟩ := hrel
    clear HO0 HBl
    by_cases hlt : (kk : Int) < n
    · have hcall := HP.out wr kk (.int .i64 kk) (HQ.out _ (by omega) hlt) rfl HB.out
      have HL := Aside0.mk (chosenTo_le p kk)
      have hs : chosenTo p (kk + 1) = if p kk then chosenTo p kk ++ [(kk : Int)] else chosenTo p kk := rfl
      generalize p kk = b at hcall hs
      generalize chosenTo p kk = xs at HO HL hs
      have HS := Aside0.mk hs
      clear hs
      cases b with
      | true =>
        go_wp2_with (first | (go_at_fn g; refine hcall.mono ?_; rintro e w1 ⟨rfl, hb⟩; have HO1 := Aside0.mk (Kd.R_below HO.out hb); have HB1 := Aside0.mk (below_step HB.out hb); clear hb) | ((with_reducible refine gate_builtin (b := .append) (xs := #[.tmp 15, .tmp 17]) rfl ?_); at_builtin; refine Kd.R_append (Kd.int .i64) (w0 := w) w.heap.size rfl (.tmp 15) (.tmp 17) 38 2 (.int .i64 0) 8 rfl Tryd.underlying38 info2 rfl (by decide) (by omega) u5 xs (kk : Int) [.int .i64 kk] (fun _ => True) (fun _ => False) rfl rfl ?aP (fun _ hk => hk.elim) ?aF ?aO ?aB ?aS ?aL ?_; (case aP => exact rfl); (case aF => exact (fun _ _ => trivial)); (case aO => exact HO1.out); (case aB => exact HB1.out); (case aS => exact below_size HB1.out); (case aL => have := HL.out; omega); intro v2 w2 ho hb hg hat; have HO2 := Aside0.mk ho; have HB2 := Aside0.mk hb; clear ho hb hg hat))
        go_roundg (n.toNat - (kk + 1))
        case measure => omega
        case rel => exact ⟨kk + 1, by omega, by omega, by go_num, ⟨by rw [HS.out]; exact HO2.out⟩, ⟨HB2.out⟩⟩
      | false =>
        go_wp2_with (go_at_fn g; refine hcall.mono ?_; rintro e w1 ⟨rfl, hb⟩; have HO1 := Aside0.mk (Kd.R_below HO.out hb); have HB1 := Aside0.mk (below_step HB.out hb); clear hb)
        go_roundg (n.toNat - (kk + 1))
        case measure => omega
        case rel => exact ⟨kk + 1, by omega, by omega, by go_num, ⟨by rw [HS.out]; exact HO1.out⟩, ⟨HB1.out⟩⟩
    · have : kk = n.toNat := by omega
      subst this
      go_wp2
      go_ret
      exact ⟨_, rfl, HO.out, HB.out⟩
-- The program's 'reached' computes the least closed set.
theorem and_own (m a b : Nat) : m &&& (2 ^ a ||| 2 ^ b) = 0 ↔ (m.testBit a = false ∧ m.testBit b = false) := by
  constructor
  · intro h
    have h1 : (m &&& (2 ^ a ||| 2 ^ b)).testBit a = false := by rw [h]; simp
    have h2 : (m &&& (2 ^ a ||| 2 ^ b)).testBit b = false := by rw [h]; simp
    rw [Nat.testBit_and, Nat.testBit_or, Nat.testBit_two_pow, Nat.testBit_two_pow] at h1 h2
    constructor
    · simpa using h1
    · simpa using h2
  · rintro ⟨h1, h2⟩
    apply Nat.eq_of_testBit_eq
    intro x
    rw [Nat.testBit_and, Nat.testBit_or, Nat.testBit_two_pow, Nat.testBit_two_pow, Nat.zero_testBit]
    by_cases ha : a = x
    · subst ha; simp [h1]
    · by_cases hb : b = x
      · subst hb; simp [h2]
      · simp [ha, hb]
theorem stepI (acc : Int → Bool) (l : List (List Int)) (m m' a b i k : Nat) (hm' : m' < 256) (ha : a < 8) (hb : b < 8) (hlt : i < l.length) (he : rd_L1 l i = [(a : Int), (b : Int)]) :
    impl_Net_reached.l1 (k + 1) acc l m m' i = if acc (i : Int) = true then (if m'.testBit a = false ∧ m'.testBit b = false then impl_Net_reached.l1 k acc l m m' (i + 1) else impl_Net_reached.l1 k acc l m (((m' ||| 2 ^ a) ||| 2 ^ b : Nat) : Int) (i + 1)) else impl_Net_reached.l1 k acc l m m' (i + 1) := by
  have hao := and_own m' a b
  have t1 := two_lt ha
  have t2 := two_lt hb
  have t3 := or_lt t1 t2
  have r0 : rd [(a : Int), (b : Int)] 0 = (a : Int) := rfl
  have r1 : rd [(a : Int), (b : Int)] 1 = (b : Int) := rfl
  have s1 := shl_nat a (by omega)
  have s2 := shl_nat b (by omega)
  have asc := Nat.or_assoc m' (2 ^ a) (2 ^ b)
  generalize (2 ^ a : Nat) = pa at *
  generalize (2 ^ b : Nat) = pb at *
  have o1 := bits_or_nat pa pb (by omega) (by omega)
  have o2 := bits_or_nat m' (pa ||| pb) (by omega) (by omega)
  have o3 := bits_and_nat m' (pa ||| pb) (by omega) (by omega)
  rw [asc]
  simp only [impl_Net_reached.l1]
  unfold netOwn
  rw [if_pos hlt, he, r0, r1, s1, s2, o1, o2, o3]
  have e : (((m' &&& (pa ||| pb) : Nat) : Int) = 0) = (m'.testBit a = false ∧ m'.testBit b = false) := by
    rw [← hao]; exact propext (by omega)
  simp only [e]
theorem reachI_out (acc : Int → Bool) (l : List (List Int)) (hl : NetEdges l) (f : Nat) : ∀ (n m : Nat), 256 - m ≤ n → m.testBit f = true → Under (fun i => acc (i : Int)) l f m → m < 256 →
    ∃ c : Nat, Ev (fun k => impl_Net_reached.l1 k acc l m m 0) (c : Int) ∧ LeastSet (fun i => acc (i : Int)) l f c := by
  intro n
  induction n with
  | zero => intro m h _ _ h2; omega
  | succ n ih =>
    intro m hn hf hu hm
    have pass : ∀ (d i : Nat), i + d = l.length → ∀ (m' : Nat), m'.testBit f = true → Under (fun i => acc (i : Int)) l f m' → m' < 256 → m ≤ m' → (m' = m → ∀ j : Nat, j < i → acc (j : Int) = true → m.testBit (ea l j) = m.testBit (eb l j)) →
        ∃ c : Nat, Ev (fun k => impl_Net_reached.l1 k acc l m m' i) (c : Int) ∧ LeastSet (fun i => acc (i : Int)) l f c := by
      intro d
      induction d with
      | zero =>
        intro i hi m' hf' hu' hm' hle h0
        have st : ∀ k, impl_Net_reached.l1 (k + 1) acc l m m' i = impl_Net_reached.l0 k acc l m m' := fun k => by
          simp only [impl_Net_reached.l1]; rw [if_neg (by omega)]
        by_cases e : m' = m
        · have hc := h0 e
          subst e
          refine ⟨m', Ev.step st (Ev.step (f := fun _ => some _) (fun k => ?_) (Ev.now _)), hm', hf', fun j hj ha => hc j (by omega) ha, hu'⟩
          simp only [impl_Net_reached.l0]; rw [if_pos trivial]
        · obtain ⟨c, hc, hL⟩ := ih m' (by omega) hf' hu' hm'
          refine ⟨c, Ev.step st (Ev.step (fun k => ?_) hc), hL⟩
          simp only [impl_Net_reached.l0]; rw [if_neg (by omega)]
      | succ d ihd =>
        intro i hi m' hf' hu' hm' hle h0
        have hlt : i < l.length := by omega
        obtain ⟨he, ha, hb⟩ := edge_at hl hlt
        have step := fun k => stepI acc l m m' (ea l i) (eb l i) i k hm' ha hb hlt he
        by_cases hA : acc (i : Int) = true
        · by_cases hq : m'.testBit (ea l i) = false ∧ m'.testBit (eb l i) = false
          · obtain ⟨c, hc, hL⟩ := ihd (i + 1) (by omega) m' hf' hu' hm' hle (fun hm0 j hj hsj => by
              by_cases hji : j < i
              · exact h0 hm0 j hji hsj
              · obtain rfl : j = i := by omega
                rw [← hm0, hq.1, hq.2])
            exact ⟨c, Ev.step (fun k => by rw [step k, if_pos hA, if_pos hq]) hc, hL⟩
          · have hor : m'.testBit (ea l i) = true ∨ m'.testBit (eb l i) = true := by
              cases h3 : m'.testBit (ea l i) <;> cases h4 : m'.testBit (eb l i) <;> simp_all
            have hge := or2_le m' (ea l i) (eb l i)
            obtain ⟨c, hc, hL⟩ := ihd (i + 1) (by omega) ((m' ||| 2 ^ ea l i) ||| 2 ^ eb l i) (bit_mono_or m' (ea l i) (eb l i) f hf') (under_or hu' hlt hA hor) (or_lt (or_lt hm' (two_lt ha)) (two_lt hb)) (by omega) (fun hm0 j hj hsj => by
              have e : m' = m := by omega
              by_cases hji : j < i
              · exact h0 e j hji hsj
              · obtain rfl : j = i := by omega
                have h1 := bit_or2 m' (ea l j) (eb l j) (ea l j)
                have h2 := bit_or2 m' (ea l j) (eb l j) (eb l j)
                rw [hm0] at h1 h2
                rw [h1, h2]; simp)
            exact ⟨c, Ev.step (fun k => by rw [step k, if_pos hA, if_neg hq]) hc, hL⟩
        · obtain ⟨c, hc, hL⟩ := ihd (i + 1) (by omega) m' hf' hu' hm' hle (fun hm0 j hj hsj => by
              by_cases hji : j < i
              · exact h0 hm0 j hji hsj
              · obtain rfl : j = i := by omega
                exact absurd hsj hA)
          exact ⟨c, Ev.step (fun k => by rw [step k, if_neg hA]) hc, hL⟩
    obtain ⟨c, hc, hL⟩ := pass l.length 0 (by omega) m hf hu hm (Nat.le_refl _) (fun _ j hj => by omega)
    exact ⟨c, hc, hL⟩
theorem under_one (A : Nat → Bool) (l : List (List Int)) (f : Nat) : Under A l f (2 ^ f) := by
  intro M hM _ x hx
  rw [Nat.testBit_two_pow] at hx
  simp only [decide_eq_true_eq] at hx
  rw [← hx]; exact hM
theorem reachI_ev (acc : Int → Bool) (l : List (List Int)) (hl : NetEdges l) (f : Nat) (hf : f < 8) :
    ∃ c : Nat, Ev (fun k => impl_Net_reached.l0 k acc l 0 (shl .i64 1 (f : Int))) (c : Int) ∧ LeastSet (fun i => acc (i : Int)) l f c := by
  rw [shl_nat f (by omega)]
  have h2 := two_lt hf
  have hp : 0 < 2 ^ f := Nat.two_pow_pos f
  obtain ⟨c, hc, hL⟩ := reachI_out acc l hl f 256 (2 ^ f) (by omega) (by simp) (under_one _ l f) h2
  refine ⟨c, Ev.step (fun k => ?_) hc, hL⟩
  generalize (2 ^ f : Nat) = pf at *
  simp only [impl_Net_reached.l0]; rw [if_neg (by omega)]
theorem reachS_ev (p : Int) (l : List (List Int)) (hl : NetEdges l) (s f : Nat) (hs : s < 4611686018427387904) (hf : f < 8) :
    ∃ c : Nat, Ev (fun k => spec_l10Reached.f k p l s f) (c : Int) ∧ LeastSet (fun i => s.testBit i) l f c := by
  have h2 := two_lt hf
  obtain ⟨c, hc, hL⟩ := reachS_out p l hl s f hs 256 (2 ^ f) (Nat.sub_le _ _) (by simp) (under_one _ l f) h2
  refine ⟨c, Ev.congr (fun k => ?_) hc, hL⟩
  unfold spec_l10Reached.f
  rw [u64_nat f (by omega), if_pos (by omega), shl_nat f (by omega)]
-- needs: 61 (who wins a state, in plain words)
/-- A set that holds a point and is closed under the accepted edges. -/
def goodSet (A : Nat → Bool) (l : List (List Int)) (f M : Nat) : Bool := M.testBit f && (List.range l.length).all fun i => !A i || (M.testBit (ea l i) == M.testBit (eb l i))
theorem goodSet_iff (A : Nat → Bool) (l : List (List Int)) (f M : Nat) : goodSet A l f M = true ↔ (M.testBit f = true ∧ ClosedUnder A l M) := by
  unfold goodSet ClosedUnder
  rw [Bool.and_eq_true, List.all_eq_true]
  refine and_congr_right fun _ => ⟨fun h i hi hA => ?_, fun h i hi => ?_⟩
  · have := h i (List.mem_range.2 hi)
    rw [hA] at this
    simpa using this
  · cases hA : A i
    · rfl
    · simpa using h i (List.mem_range.1 hi) hA
/-- The least closed set: what all closed sets share. -/
def reachN (A : Nat → Bool) (l : List (List Int)) (f : Nat) : Nat := (List.range 256).foldl (fun acc M => if goodSet A l f M = true then acc &&& M else acc) 255
theorem fold_and_bit (g : Nat → Bool) (x : Nat) : ∀ (L : List Nat) (acc : Nat), (L.foldl (fun acc M => if g M = true then acc &&& M else acc) acc).testBit x = (acc.testBit x && L.all fun M => !g M || M.testBit x)
  | [], acc => by simp
  | M :: L, acc => by
    rw [List.foldl_cons, fold_and_bit g x L, List.all_cons]
    by_cases h : g M = true
    · rw [if_pos h, Nat.testBit_and, h]; simp [Bool.and_assoc]
    · rw [if_neg h, Bool.eq_false_iff.2 h]; simp
theorem reachN_eq {A : Nat → Bool} {l : List (List Int)} {f c : Nat} (h : LeastSet A l f c) : reachN A l f = c := by
  obtain ⟨h1, h2, h3, h4⟩ := h
  apply Nat.eq_of_testBit_eq
  intro x
  unfold reachN
  rw [fold_and_bit]
  cases hx : c.testBit x with
  | true =>
    have hx8 : x < 8 := by
      rcases Nat.lt_or_ge x 8 with h | h
      · exact h
      · have : c < 2 ^ x := Nat.lt_of_lt_of_le h1 (Nat.pow_le_pow_right (by omega) h : 2 ^ 8 ≤ 2 ^ x)
        rw [Nat.testBit_lt_two_pow this] at hx
        cases hx
    have e : (255 : Nat).testBit x = true := by
      have : x = 0 ∨ x = 1 ∨ x = 2 ∨ x = 3 ∨ x = 4 ∨ x = 5 ∨ x = 6 ∨ x = 7 := by omega
      rcases this with rfl | rfl | rfl | rfl | rfl | rfl | rfl | rfl <;> decide
    rw [e, Bool.true_and, List.all_eq_true]
    intro M hM
    cases hg : goodSet A l f M with
    | false => rfl
    | true =>
      obtain ⟨g1, g2⟩ := (goodSet_iff A l f M).1 hg
      simp [h4 M g1 g2 x hx]
  | false =>
    rw [Bool.and_eq_false_iff]
    right
    rw [List.all_eq_false]
    refine ⟨c, List.mem_range.2 h1, ?_⟩
    rw [(goodSet_iff A l f c).2 ⟨h2, h3⟩, hx]; simp
theorem reachN_is {l : List (List Int)} (hl : NetEdges l) (A : Nat → Bool) (f : Nat) (hf : f < 8) : LeastSet A l f (reachN A l f) := by
  have h : ∃ c, LeastSet A l f c := by
    obtain ⟨c, _, hc⟩ := reachI_ev (fun x => A x.toNat) l hl f hf
    exact ⟨c, hc.congr (fun i _ => by simp)⟩
  obtain ⟨c, hc⟩ := h
  rw [reachN_eq hc]; exact hc
theorem reachN_of {l : List (List Int)} (hl : NetEdges l) {A : Nat → Bool} {f c : Nat} (hf : f < 8) (h : LeastSet A l f c) : c = reachN A l f := h.eq (reachN_is hl A f hf)
theorem reachI_N (acc : Int → Bool) (l : List (List Int)) (hl : NetEdges l) (f : Nat) (hf : f < 8) :
    Ev (fun k => impl_Net_reached.l0 k acc l 0 (shl .i64 1 (f : Int))) (reachN (fun i => acc (i : Int)) l f : Int) := by
  obtain ⟨c, hc, hL⟩ := reachI_ev acc l hl f hf
  rw [← reachN_of hl hf hL]
  exact hc
/-- Who has won a state: 1 short, 2 cut, 0 none. -/
def ovV (l : List (List Int)) (s : ByteArray) : Int :=
  if (reachN (fun i => bt s (i : Int) == 115) l 0).testBit 1 = true then 1 else if (reachN (fun i => bt s (i : Int) != 99) l 0).testBit 1 = true then 0 else 2
def signV (b : Bool) : ByteArray := if b then ⟨#[115]⟩ else ⟨#[99]⟩
def afterV (s : ByteArray) (k : Int) (b : Bool) : ByteArray := s.extract 0 k.toNat ++ signV b ++ s.extract (k + 1).toNat s.size
def freeV (s : ByteArray) : List Int := chosenTo (fun k => bt s k == 46) s.size
def ownV (b : Bool) : Int := if b then 1 else 2
def netWinN (l : List (List Int)) : Nat → ByteArray → Bool → Int
  | 0, _, _ => 0
  | n + 1, s, b => if ovV l s = 0 then (if (freeV s).any (fun k => netWinN l n (afterV s k b) (!b) == ownV b) = true then ownV b else 3 - ownV b) else ovV l s
theorem mem_chosenTo {p : Int → Bool} : ∀ {n : Nat} {x : Int}, x ∈ chosenTo p n ↔ (0 ≤ x ∧ x < (n : Int) ∧ p x = true)
  | 0, x => by simp [chosenTo]; omega
  | n + 1, x => by
    have ih := mem_chosenTo (p := p) (n := n) (x := x)
    show x ∈ (if p n then chosenTo p n ++ [(n : Int)] else chosenTo p n) ↔ _
    by_cases h : p n = true
    · rw [if_pos h, List.mem_append, ih, List.mem_singleton]
      constructor
      · rintro (⟨h0, h1, h2⟩ | rfl)
        · exact ⟨h0, by omega, h2⟩
        · exact ⟨by omega, by omega, h⟩
      · rintro ⟨h0, h1, h2⟩
        by_cases e : x = n
        · exact .inr e
        · exact .inl ⟨h0, by omega, h2⟩
    · rw [if_neg h, ih]
      constructor
      · rintro ⟨h0, h1, h2⟩; exact ⟨h0, by omega, h2⟩
      · rintro ⟨h0, h1, h2⟩
        refine ⟨h0, ?_, h2⟩
        by_cases e : x = n
        · subst e; exact absurd h2 h
        · omega
theorem bt_get (s : ByteArray) (i : Nat) (h : i < s.size) : bt s (i : Int) = ((s[i]'h).toNat : Int) := by
  unfold bt
  rw [dif_pos (by simpa using h)]
  simp
theorem signV_size (b : Bool) : (signV b).size = 1 := by cases b <;> rfl
theorem afterV_size (s : ByteArray) (k : Nat) (b : Bool) (h : k < s.size) : (afterV s k b).size = s.size := by
  unfold afterV
  rw [ByteArray.size_append, ByteArray.size_append, ByteArray.size_extract, ByteArray.size_extract, signV_size]
  omega
theorem bt_data (s : ByteArray) (i : Nat) (h : i < s.size) : bt s (i : Int) = ((s.data.toList[i]'(by simpa using h)).toNat : Int) := by
  rw [bt_get s i h]; rfl
theorem afterV_list (s : ByteArray) (k : Nat) (b : Bool) : (afterV s k b).data.toList = s.data.toList.take k ++ (signV b).data.toList ++ s.data.toList.drop (k + 1) := by
  unfold afterV
  have e : ((k : Int) + 1).toNat = k + 1 := by omega
  rw [e, Int.toNat_natCast]
  simp [ByteArray.data_append, ByteArray.data_extract, Array.toList_extract, List.extract]
  rw [List.take_of_length_le (by simp)]
theorem afterV_bt (s : ByteArray) (k : Nat) (b : Bool) (h : k < s.size) (i : Nat) (hi : i < s.size) : bt (afterV s k b) (i : Int) = if i = k then (if b then 115 else 99) else bt s (i : Int) := by
  have hs := afterV_size s k b h
  have hl := afterV_list s k b
  have hsz : s.data.toList.length = s.size := by simp
  rw [bt_data _ i (by omega), bt_data s i hi]
  have hg : (signV b).data.toList = [if b then 115 else 99] := by cases b <;> rfl
  rw [hg] at hl
  have hget : (afterV s k b).data.toList[i]'(by have : (afterV s k b).data.toList.length = (afterV s k b).size := by simp
                                                omega) = (s.data.toList.take k ++ [if b then 115 else 99] ++ s.data.toList.drop (k + 1))[i]'(by rw [← hl]; have : (afterV s k b).data.toList.length = (afterV s k b).size := by simp
                                                                                                                                                omega) := by
    congr 1
  rw [hget]
  by_cases e : i = k
  · subst e
    rw [if_pos rfl, List.getElem_append_left (by simp; omega), List.getElem_append_right (by simp; omega)]
    cases b <;> simp
  · rw [if_neg e]
    rcases Nat.lt_or_ge i k with hlt | hge
    · rw [List.getElem_append_left (by simp; omega), List.getElem_append_left (by simp; omega), List.getElem_take]
    · rw [List.getElem_append_right (by simp; omega), List.getElem_drop]
      have e2 : k + 1 + (i - (s.data.toList.take k ++ [if b = true then 115 else 99]).length) = i := by
        rw [List.length_append, List.length_take, List.length_singleton, hsz]; omega
      simp only [e2]
theorem chosenTo_congr {p q : Int → Bool} : ∀ {n : Nat}, (∀ i : Nat, i < n → p i = q i) → chosenTo p n = chosenTo q n
  | 0, _ => rfl
  | n + 1, h => by
    show (if p n then chosenTo p n ++ [(n : Int)] else chosenTo p n) = (if q n then chosenTo q n ++ [(n : Int)] else chosenTo q n)
    rw [chosenTo_congr (fun i hi => h i (by omega)), h n (by omega)]
theorem chosenTo_less {p q : Int → Bool} (k : Nat) (hpk : p k = true) (hqk : q k = false) : ∀ {n : Nat}, (∀ i : Nat, i < n → i ≠ k → q i = p i) → k < n → (chosenTo q n).length < (chosenTo p n).length
  | 0, _, h => by omega
  | n + 1, he, h => by
    show (if q n then chosenTo q n ++ [(n : Int)] else chosenTo q n).length < (if p n then chosenTo p n ++ [(n : Int)] else chosenTo p n).length
    by_cases e : k = n
    · subst e
      rw [if_pos hpk, hqk, if_neg (by simp), chosenTo_congr (p := q) (q := p) (fun i hi => he i (by omega) (by omega))]
      simp
    · have ih := chosenTo_less k hpk hqk (n := n) (fun i hi hk => he i (by omega) hk) (by omega)
      rw [he n (by omega) (by omega)]
      by_cases c : p n = true
      · rw [if_pos c, if_pos c]; simpa using ih
      · rw [if_neg c, if_neg c]; exact ih
/-- A move fills an open edge. -/
theorem free_less (s : ByteArray) (k : Int) (b : Bool) (hk : k ∈ freeV s) : (freeV (afterV s k b)).length < (freeV s).length := by
  obtain ⟨h0, h1, h2⟩ := mem_chosenTo.1 hk
  obtain ⟨j, rfl⟩ : ∃ j : Nat, k = (j : Int) := ⟨k.toNat, by omega⟩
  have hj : j < s.size := by omega
  unfold freeV
  rw [afterV_size s j b hj]
  refine chosenTo_less (p := fun k => bt s k == 46) (q := fun k => bt (afterV s j b) k == 46) j h2 ?_ ?_ hj
  · show (bt (afterV s j b) (j : Int) == 46) = false
    rw [afterV_bt s j b hj j hj, if_pos rfl]; cases b <;> rfl
  · intro i hi hne
    show (bt (afterV s j b) (i : Int) == 46) = (bt s (i : Int) == 46)
    rw [afterV_bt s j b hj i hi, if_neg hne]
theorem any_congr_mem {α : Type} {l : List α} {p q : α → Bool} (h : ∀ x ∈ l, p x = q x) : l.any p = l.any q := by
  induction l with
  | nil => rfl
  | cons a l ih =>
    rw [List.any_cons, List.any_cons, h a (by simp), ih (fun x hx => h x (by simp [hx]))]
theorem netWinN_more (l : List (List Int)) : ∀ (n m : Nat) (s : ByteArray) (b : Bool), (freeV s).length < n → (freeV s).length < m → netWinN l n s b = netWinN l m s b
  | 0, _, _, _, h, _ => by omega
  | _, 0, _, _, _, h => by omega
  | n + 1, m + 1, s, b, h1, h2 => by
    unfold netWinN
    have e : (freeV s).any (fun k => netWinN l n (afterV s k b) (!b) == ownV b) = (freeV s).any (fun k => netWinN l m (afterV s k b) (!b) == ownV b) :=
      any_congr_mem fun k hk => by
        have := free_less s k b hk
        rw [netWinN_more l n m _ _ (by omega) (by omega)]
    rw [e]
def netWin (l : List (List Int)) (s : ByteArray) (b : Bool) : Int := netWinN l ((freeV s).length + 1) s b
/-- The winner, by what follows. -/
theorem netWin_eq (l : List (List Int)) (s : ByteArray) (b : Bool) : netWin l s b = if ovV l s = 0 then (if (freeV s).any (fun k => netWin l (afterV s k b) (!b) == ownV b) = true then ownV b else 3 - ownV b) else ovV l s := by
  show netWinN l ((freeV s).length + 1) s b = _
  rw [netWinN]
  have e : (freeV s).any (fun k => netWinN l (freeV s).length (afterV s k b) (!b) == ownV b) = (freeV s).any (fun k => netWin l (afterV s k b) (!b) == ownV b) :=
    any_congr_mem fun k hk => by
      have := free_less s k b hk
      rw [netWinN_more l _ ((freeV (afterV s k b)).length + 1) _ _ this (by omega)]; rfl
  rw [e]
theorem ovV_range (l : List (List Int)) (s : ByteArray) : 0 ≤ ovV l s ∧ ovV l s ≤ 2 := by
  unfold ovV
  split
  · omega
  · split <;> omega
theorem ownV_range (b : Bool) : 1 ≤ ownV b ∧ ownV b ≤ 2 := by cases b <;> decide
theorem netWin_range (l : List (List Int)) (s : ByteArray) (b : Bool) : 0 ≤ netWin l s b ∧ netWin l s b ≤ 2 := by
  have := ovV_range l s
  have := ownV_range b
  rw [netWin_eq]; split
  · split <;> omega
  · omega
theorem net_edges_ok {l : List (List Int)} (h : NetEdges l) : ∀ e ∈ l, e.length = 2 ∧ 0 ≤ rd e 0 ∧ 0 ≤ rd e 1 := by
  intro e he
  obtain ⟨a, b, rfl, _, _⟩ := h.2 e he
  exact ⟨rfl, by show (0 : Int) ≤ (a : Int); omega, by show (0 : Int) ≤ (b : Int); omega⟩
/-! ### impl_Net_over: function 36 -/
-- EXTERNAL: by hand
-- impl_Net_reached impl_IsNet
def impl_Net_over.f (a0_0 : Int) (l0_1 : List (List Int)) (a1 : ByteArray) : Option Int := if isNetV a0_0 l0_1 = true ∧ a1.size = l0_1.length then some (ovV l0_1 a1) else none
set_option maxHeartbeats 2000000 in
set_option maxRecDepth 100000 in
theorem overPred1 (g : Nat)  (s : ByteArray) (w : World) (hbox : w.heap[g]? = some (.cells #[.string s] 9 (0, 0))) :
    PredD Tryd.prog 62 #[.pointer (some ⟨g, 0, none⟩)] (Kd.int .i64) (fun x => 0 ≤ x ∧ x < (s.size : Int)) (fun x => bt s x == 115) w := by
  intro W x v hq hK hb
  obtain ⟨h0, h1⟩ := hq
  obtain rfl : v = .int .i64 x := by simpa [Kd.int, Kd.scalar] using hK
  show Calls Tryd.prog 62 #[.int .i64 x, .pointer (some ⟨g, 0, none⟩)] W _
  have hc0 : W.cell? ⟨g, 0, none⟩ = some (.string s) := (blk_cell (blk_below hbox hb) 0).trans rfl
  have hx := bt_at s x
  have p := eq_true h0
  have q := eq_true h1
  clear hbox hb hK h0 h1
  go_enter Tryd.func62, Tryd.ntmps62
  go_wp2
  go_ret
  exact ⟨rfl, Drawn0.refl _⟩
set_option maxHeartbeats 2000000 in
set_option maxRecDepth 100000 in
theorem overPred2 (g : Nat)  (s : ByteArray) (w : World) (hbox : w.heap[g]? = some (.cells #[.string s] 9 (0, 0))) :
    PredD Tryd.prog 63 #[.pointer (some ⟨g, 0, none⟩)] (Kd.int .i64) (fun x => 0 ≤ x ∧ x < (s.size : Int)) (fun x => bt s x != 99) w := by
  intro W x v hq hK hb
  obtain ⟨h0, h1⟩ := hq
  obtain rfl : v = .int .i64 x := by simpa [Kd.int, Kd.scalar] using hK
  show Calls Tryd.prog 63 #[.int .i64 x, .pointer (some ⟨g, 0, none⟩)] W _
  have hc0 : W.cell? ⟨g, 0, none⟩ = some (.string s) := (blk_cell (blk_below hbox hb) 0).trans rfl
  have hx := bt_at s x
  have p := eq_true h0
  have q := eq_true h1
  clear hbox hb hK h0 h1
  go_enter Tryd.func63, Tryd.ntmps63
  go_wp2
  go_ret
  exact ⟨rfl, Drawn0.refl _⟩

theorem and_two (c : Nat) (h : c < 256) : Go.bits .and .i64 (c : Int) 2 = if c.testBit 1 = true then 2 else 0 := by
  have := bits_and_nat c 2 (by omega) (by omega)
  rw [show ((2 : Nat) : Int) = 2 from rfl] at this
  rw [this]
  have e : c &&& 2 = if c.testBit 1 = true then 2 else 0 := by
    apply Nat.eq_of_testBit_eq
    intro i
    rw [Nat.testBit_and, show (2 : Nat) = 2 ^ 1 from rfl, Nat.testBit_two_pow]
    by_cases hi : 1 = i
    · subst hi; cases hb : c.testBit 1
      · simp
      · rw [if_pos rfl]; rfl
    · cases hb : c.testBit 1
      · simp [hi]
      · rw [if_pos rfl, show (2 : Nat) = 2 ^ 1 from rfl, Nat.testBit_two_pow]; simp [hi]
  rw [e]; split <;> rfl
set_option maxHeartbeats 4000000 in
set_option maxRecDepth 100000 in
theorem impl_Net_over.calls (a0_0 : Int) (A0_1 : Option Addr) (c0_1 : Nat) (l0_1 : List (List Int)) (a1 : ByteArray) (r : Int) (w : World) (hr0_1 : Kd.C (Kd.slice 2 (Kd.int .i64)) w A0_1 l0_1.length l0_1) (hc0_1 : l0_1.length ≤ c0_1) (h : impl_Net_over.f a0_0 l0_1 a1 = some r) :
    Calls Tryd.prog 36 #[.agg #[.int .i64 a0_0, .slice A0_1 l0_1.length c0_1], .string a1] w fun e w' => e = .returned (.int .i64 r) ∧ Below w.heap.size w w' := by
  unfold impl_Net_over.f at h
  by_cases hv : isNetV a0_0 l0_1 = true ∧ a1.size = l0_1.length
  case neg => rw [if_neg hv] at h; cases h
  rw [if_pos hv] at h
  obtain rfl := Option.some.inj h
  clear h
  obtain ⟨hv, hsz⟩ := hv
  have hE := (netEdges hv).1
  have eg1 : ∀ args w, (callFunc 62 args).run Tryd.prog w = .ok (.enter 62 args) w := enters_of Tryd.func62 (by kernel_rfl) rfl
  have eg2 : ∀ args w, (callFunc 63 args).run Tryd.prog w = .ok (.enter 63 args) w := enters_of Tryd.func63 (by kernel_rfl) rfl
  have HB := Aside0.mk (Below.refl w.heap.size w)
  have HR := Aside0.mk hr0_1
  have HC0 := Aside0.mk hc0_1
  have HE := Aside0.mk (net_edges_ok hE)
  have hu := Tryd.underlying28
  obtain ⟨k1, hk1⟩ := (reachI_N (fun x => bt a1 x == 115) l0_1 hE 0 (by omega)).rounds
  obtain ⟨k2, hk2⟩ := (reachI_N (fun x => bt a1 x != 99) l0_1 hE 0 (by omega)).rounds
  have P1 := fun (W : World) (g : Nat) (hb : W.heap[g]? = some (.cells #[.string a1] 9 (0, 0))) => overPred1 g a1 W hb
  have P2 := fun (W : World) (g : Nat) (hb : W.heap[g]? = some (.cells #[.string a1] 9 (0, 0))) => overPred2 g a1 W hb
  rw [hsz] at P1 P2
  unfold ovV
  have b1 := (reachN_is hE (fun i => bt a1 (i : Int) == 115) 0 (by omega)).1
  have b2 := (reachN_is hE (fun i => bt a1 (i : Int) != 99) 0 (by omega)).1
  generalize reachN (fun i => bt a1 (i : Int) == 115) l0_1 0 = n1 at *
  generalize reachN (fun i => bt a1 (i : Int) != 99) l0_1 0 = n2 at *
  have t1 := and_two n1 b1
  have t2 := and_two n2 b2
  generalize n1.testBit 1 = q1 at t1 ⊢
  generalize n2.testBit 1 = q2 at t2 ⊢
  obtain ⟨r1, e1⟩ : ∃ r : Int, r = n1 := ⟨_, rfl⟩
  obtain ⟨r2, e2⟩ : ∃ r : Int, r = n2 := ⟨_, rfl⟩
  rw [← e1] at hk1 t1
  rw [← e2] at hk2 t2
  have HR1_ := Aside0.mk hk1
  have HR2_ := Aside0.mk hk2
  have tok1 : True := trivial
  have tok2 : True := trivial
  clear hv hsz hE hr0_1 hc0_1 hk1 hk2 b1 b2 e1 e2 n1 n2
  cases q1 with
  | true =>
    have z1 : (Go.bits .and .i64 r1 2 != 0) = true := by rw [t1]; rfl
    clear t1 t2
    go_enter Tryd.func36, Tryd.ntmps36
    go_wp2_with (first | ((with_reducible refine gate_dst (N := 2) rfl ?_); refine box_event ?hg (N := 2) ?hd (cs := #[.int .i64 a0_0, .slice A0_1 l0_1.length c0_1]) (t := 28) ?hr ?_; (case hd => rfl); (case hg => rfl); (case hr => first | (go_simp; done) | (go_simp; rfl)); intro g2 hg_ w_ hbox hb; have HX2 := Aside0.mk hbox; have HG2 := Aside0.mk (show w.heap.size ≤ g2 by have := below_size HB.out; omega); clear hbox hg_; have nHB_ := Aside0.mk (below_step HB.out hb); clear HB hb; have HB := nHB_; clear nHB_; have hc20 := (blk_cell HX2.out 0).trans rfl; have hc21 := (blk_cell HX2.out 1).trans rfl) | ((with_reducible refine gate_dst (N := 3) rfl ?_); refine box_event ?hg (N := 3) ?hd (cs := #[.string a1]) (t := 9) ?hr ?_; (case hd => rfl); (case hg => rfl); (case hr => first | (go_simp; done) | (go_simp; rfl)); intro g3 hg_ w_ hbox hb; have HX3 := Aside0.mk hbox; have HG3 := Aside0.mk (show w.heap.size ≤ g3 ∧ g2 ≠ g3 by have := below_size HB.out; have := blk_lt HX2.out; omega); (try clear hc20); (try clear hc21); clear hbox hg_; have nHB_ := Aside0.mk (below_step HB.out hb); have nHX2_ := Aside0.mk (blk_below HX2.out hb); clear HB HX2 hb; have HB := nHB_; have HX2 := nHX2_; clear nHB_ nHX2_; have hc20 := (blk_cell HX2.out 0).trans rfl; have hc21 := (blk_cell HX2.out 1).trans rfl; have hc30 := (blk_cell HX3.out 0).trans rfl) | (go_at_call 61; have _t := tok1; refine (impl_Net_reached.calls 62 #[.pointer (some ⟨g3, 0, none⟩)] _ eg1 k1 a0_0 A0_1 c0_1 l0_1 0 r1 _ (PredD.toK (P1 _ _ HX3.out)) (Kd.C_below HR.out HB.out) HC0.out HE.out (by omega) HR1_.out).mono ?_; rintro e w_ ⟨rfl, hb⟩; (try clear hc20); (try clear hc21); (try clear hc30); have nHB_ := Aside0.mk (below_step HB.out hb); have nHX2_ := Aside0.mk (blk_below HX2.out hb); have nHX3_ := Aside0.mk (blk_below HX3.out hb); clear HB HX2 HX3 hb; have HB := nHB_; have HX2 := nHX2_; have HX3 := nHX3_; clear nHB_ nHX2_ nHX3_; have hc20 := (blk_cell HX2.out 0).trans rfl; have hc21 := (blk_cell HX2.out 1).trans rfl; have hc30 := (blk_cell HX3.out 0).trans rfl; (try clear tok1)))
    go_ret
    exact ⟨rfl, HB.out⟩
  | false =>
    have z1 : (Go.bits .and .i64 r1 2 != 0) = false := by rw [t1]; rfl
    cases q2 with
    | true =>
      have z2 : (Go.bits .and .i64 r2 2 == 0) = false := by rw [t2]; rfl
      clear t1 t2
      go_enter Tryd.func36, Tryd.ntmps36
      go_wp2_with (first | ((with_reducible refine gate_dst (N := 2) rfl ?_); refine box_event ?hg (N := 2) ?hd (cs := #[.int .i64 a0_0, .slice A0_1 l0_1.length c0_1]) (t := 28) ?hr ?_; (case hd => rfl); (case hg => rfl); (case hr => first | (go_simp; done) | (go_simp; rfl)); intro g2 hg_ w_ hbox hb; have HX2 := Aside0.mk hbox; have HG2 := Aside0.mk (show w.heap.size ≤ g2 by have := below_size HB.out; omega); clear hbox hg_; have nHB_ := Aside0.mk (below_step HB.out hb); clear HB hb; have HB := nHB_; clear nHB_; have hc20 := (blk_cell HX2.out 0).trans rfl; have hc21 := (blk_cell HX2.out 1).trans rfl) | ((with_reducible refine gate_dst (N := 3) rfl ?_); refine box_event ?hg (N := 3) ?hd (cs := #[.string a1]) (t := 9) ?hr ?_; (case hd => rfl); (case hg => rfl); (case hr => first | (go_simp; done) | (go_simp; rfl)); intro g3 hg_ w_ hbox hb; have HX3 := Aside0.mk hbox; have HG3 := Aside0.mk (show w.heap.size ≤ g3 ∧ g2 ≠ g3 by have := below_size HB.out; have := blk_lt HX2.out; omega); (try clear hc20); (try clear hc21); clear hbox hg_; have nHB_ := Aside0.mk (below_step HB.out hb); have nHX2_ := Aside0.mk (blk_below HX2.out hb); clear HB HX2 hb; have HB := nHB_; have HX2 := nHX2_; clear nHB_ nHX2_; have hc20 := (blk_cell HX2.out 0).trans rfl; have hc21 := (blk_cell HX2.out 1).trans rfl; have hc30 := (blk_cell HX3.out 0).trans rfl) | (go_at_call 61; have _t := tok1; refine (impl_Net_reached.calls 62 #[.pointer (some ⟨g3, 0, none⟩)] _ eg1 k1 a0_0 A0_1 c0_1 l0_1 0 r1 _ (PredD.toK (P1 _ _ HX3.out)) (Kd.C_below HR.out HB.out) HC0.out HE.out (by omega) HR1_.out).mono ?_; rintro e w_ ⟨rfl, hb⟩; (try clear hc20); (try clear hc21); (try clear hc30); have nHB_ := Aside0.mk (below_step HB.out hb); have nHX2_ := Aside0.mk (blk_below HX2.out hb); have nHX3_ := Aside0.mk (blk_below HX3.out hb); clear HB HX2 HX3 hb; have HB := nHB_; have HX2 := nHX2_; have HX3 := nHX3_; clear nHB_ nHX2_ nHX3_; have hc20 := (blk_cell HX2.out 0).trans rfl; have hc21 := (blk_cell HX2.out 1).trans rfl; have hc30 := (blk_cell HX3.out 0).trans rfl; (try clear tok1)) | (go_at_call 61; have _t := tok2; refine (impl_Net_reached.calls 63 #[.pointer (some ⟨g3, 0, none⟩)] _ eg2 k2 a0_0 A0_1 c0_1 l0_1 0 r2 _ (PredD.toK (P2 _ _ HX3.out)) (Kd.C_below HR.out HB.out) HC0.out HE.out (by omega) HR2_.out).mono ?_; rintro e w_ ⟨rfl, hb⟩; (try clear hc20); (try clear hc21); (try clear hc30); have nHB_ := Aside0.mk (below_step HB.out hb); have nHX2_ := Aside0.mk (blk_below HX2.out hb); have nHX3_ := Aside0.mk (blk_below HX3.out hb); clear HB HX2 HX3 hb; have HB := nHB_; have HX2 := nHX2_; have HX3 := nHX3_; clear nHB_ nHX2_ nHX3_; have hc20 := (blk_cell HX2.out 0).trans rfl; have hc21 := (blk_cell HX2.out 1).trans rfl; have hc30 := (blk_cell HX3.out 0).trans rfl; (try clear tok2)))
      go_ret
      exact ⟨rfl, HB.out⟩
    | false =>
      have z2 : (Go.bits .and .i64 r2 2 == 0) = true := by rw [t2]; rfl
      clear t1 t2
      go_enter Tryd.func36, Tryd.ntmps36
      go_wp2_with (first | ((with_reducible refine gate_dst (N := 2) rfl ?_); refine box_event ?hg (N := 2) ?hd (cs := #[.int .i64 a0_0, .slice A0_1 l0_1.length c0_1]) (t := 28) ?hr ?_; (case hd => rfl); (case hg => rfl); (case hr => first | (go_simp; done) | (go_simp; rfl)); intro g2 hg_ w_ hbox hb; have HX2 := Aside0.mk hbox; have HG2 := Aside0.mk (show w.heap.size ≤ g2 by have := below_size HB.out; omega); clear hbox hg_; have nHB_ := Aside0.mk (below_step HB.out hb); clear HB hb; have HB := nHB_; clear nHB_; have hc20 := (blk_cell HX2.out 0).trans rfl; have hc21 := (blk_cell HX2.out 1).trans rfl) | ((with_reducible refine gate_dst (N := 3) rfl ?_); refine box_event ?hg (N := 3) ?hd (cs := #[.string a1]) (t := 9) ?hr ?_; (case hd => rfl); (case hg => rfl); (case hr => first | (go_simp; done) | (go_simp; rfl)); intro g3 hg_ w_ hbox hb; have HX3 := Aside0.mk hbox; have HG3 := Aside0.mk (show w.heap.size ≤ g3 ∧ g2 ≠ g3 by have := below_size HB.out; have := blk_lt HX2.out; omega); (try clear hc20); (try clear hc21); clear hbox hg_; have nHB_ := Aside0.mk (below_step HB.out hb); have nHX2_ := Aside0.mk (blk_below HX2.out hb); clear HB HX2 hb; have HB := nHB_; have HX2 := nHX2_; clear nHB_ nHX2_; have hc20 := (blk_cell HX2.out 0).trans rfl; have hc21 := (blk_cell HX2.out 1).trans rfl; have hc30 := (blk_cell HX3.out 0).trans rfl) | (go_at_call 61; have _t := tok1; refine (impl_Net_reached.calls 62 #[.pointer (some ⟨g3, 0, none⟩)] _ eg1 k1 a0_0 A0_1 c0_1 l0_1 0 r1 _ (PredD.toK (P1 _ _ HX3.out)) (Kd.C_below HR.out HB.out) HC0.out HE.out (by omega) HR1_.out).mono ?_; rintro e w_ ⟨rfl, hb⟩; (try clear hc20); (try clear hc21); (try clear hc30); have nHB_ := Aside0.mk (below_step HB.out hb); have nHX2_ := Aside0.mk (blk_below HX2.out hb); have nHX3_ := Aside0.mk (blk_below HX3.out hb); clear HB HX2 HX3 hb; have HB := nHB_; have HX2 := nHX2_; have HX3 := nHX3_; clear nHB_ nHX2_ nHX3_; have hc20 := (blk_cell HX2.out 0).trans rfl; have hc21 := (blk_cell HX2.out 1).trans rfl; have hc30 := (blk_cell HX3.out 0).trans rfl; (try clear tok1)) | (go_at_call 61; have _t := tok2; refine (impl_Net_reached.calls 63 #[.pointer (some ⟨g3, 0, none⟩)] _ eg2 k2 a0_0 A0_1 c0_1 l0_1 0 r2 _ (PredD.toK (P2 _ _ HX3.out)) (Kd.C_below HR.out HB.out) HC0.out HE.out (by omega) HR2_.out).mono ?_; rintro e w_ ⟨rfl, hb⟩; (try clear hc20); (try clear hc21); (try clear hc30); have nHB_ := Aside0.mk (below_step HB.out hb); have nHX2_ := Aside0.mk (blk_below HX2.out hb); have nHX3_ := Aside0.mk (blk_below HX3.out hb); clear HB HX2 HX3 hb; have HB := nHB_; have HX2 := nHX2_; have HX3 := nHX3_; clear nHB_ nHX2_ nHX3_; have hc20 := (blk_cell HX2.out 0).trans rfl; have hc21 := (blk_cell HX2.out 1).trans rfl; have hc30 := (blk_cell HX3.out 0).trans rfl; (try clear tok2)))
      go_ret
      exact ⟨rfl, HB.out⟩

end Go.Proofs.YtcjeccohlmmfoaaDoor.F
