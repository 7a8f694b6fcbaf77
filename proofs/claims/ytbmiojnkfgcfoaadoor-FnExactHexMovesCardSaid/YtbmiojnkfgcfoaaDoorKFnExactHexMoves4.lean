-- written by the session's program xp.py over the kit's print program, and by hand; texts joined by pack.py
import Derived.Test.YtbmiojnkfgcfoaaDoorKFnExactHexMoves3
namespace Go.Proofs.YtbmiojnkfgcfoaaDoor.F
open Go.RowKit Go.Proofs.YtbmiojnkfgcfoaaDoorW.PrintWords Go.Proofs.YtbmiojnkfgcfoaaDoorW.PrintLast Go.Proofs.YtbmiojnkfgcfoaaDoorW.PrintMore
attribute [local go_sem] max2_int min2_int max_two min_two max_three min_three max_four min_four   -- for this text's walks alone
set_option linter.unusedVariables false
set_option linter.unusedSimpArgs false

/-! ### impl_Hex_need: function 70 -/
-- EXTERNAL: by hand
-- impl_Hex_line impl_size_int64 impl_near impl_bit nearV_ok isHexV_cells wrap_next
def needBest (s : Int) (p : Int) : List (Option Int) → Nat → Int → Int
  | [], _, b => b
  | none :: r, c, b => needBest s p r (c + 1) b
  | some n :: r, c, b => needBest s p r (c + 1) (if lineV s p (c : Int) = s - 1 ∧ (b < 0 ∨ n < b) then n else b)
def impl_Hex_need.f (k : Nat) (s : Int) (l : List Int) (p : Int) : Option Int :=
  if isHexV s l = true then (farLoop s l p k true (farInit s l p l.length)).bind fun far => if (∀ o ∈ far, ∀ c, o = some c → 0 ≤ c ∧ c ≤ 4611686018427387904) then some (needBest s p far 0 (-1)) else none else none
theorem line_val {s : Int} (l : List Int) (p c : Int) (hs : s ≠ 0) : impl_Hex_line.f s l p c = some (lineV s p c) := by
  unfold impl_Hex_line.f lineV
  by_cases h : p = 1
  · rw [if_pos h, if_neg hs, if_pos h]
  · rw [if_neg h, if_neg hs, if_neg h]
set_option maxHeartbeats 2000000 in
set_option maxRecDepth 100000 in
theorem needCost (g2 : Nat) (s : Int) (A : Option Addr) (c : Nat) (l : List Int) (W : World) (h2 : W.heap[g2]? = some (.cells #[.int .i64 s, .slice A l.length c] 28 (0, 0))) (hr : Kd.C (Kd.int .i64) W A l.length l) (x : Int) (h0 : 0 ≤ x) (h1 : x < (l.length : Int)) :
    Calls Tryd.prog 76 #[.int .i64 x, .pointer (some ⟨g2, 0, none⟩)] W fun e w' => e = .returned (.int .i64 (costV l x)) ∧ Drawn0 W w' := by
  have hu := Tryd.underlying28
  have hc1 : W.cell? ⟨g2, 1, none⟩ = some (.slice A l.length c) := (blk_cell h2 1).trans rfl
  obtain ⟨ad, rfl, hx⟩ := Kd.at_int hr x h0 h1
  have p := eq_true h0
  have q := eq_true h1
  have HV := fun W => impl_bit.calls (rd l x == 0) (costV l x) W (by unfold impl_bit.f costV; by_cases h : rd l x = 0 <;> simp [h])
  clear h2 hr
  go_enter Tryd.func76, Tryd.ntmps76
  go_wp2_with (go_at_call 73; refine (HV _).mono ?_; rintro e w' ⟨rfl, hd⟩)
  go_ret
  exact ⟨rfl, hd⟩
set_option maxHeartbeats 2000000 in
set_option maxRecDepth 100000 in
theorem needOpen (g2 g3 : Nat) (s : Int) (A : Option Addr) (c : Nat) (l : List Int) (pl : Int) (W : World) (h2 : W.heap[g2]? = some (.cells #[.int .i64 s, .slice A l.length c] 28 (0, 0))) (h3 : W.heap[g3]? = some (.cells #[.int .i64 pl] 2 (0, 0))) (hr : Kd.C (Kd.int .i64) W A l.length l) (x : Int) (h0 : 0 ≤ x) (h1 : x < (l.length : Int)) :
    Calls Tryd.prog 77 #[.int .i64 x, .pointer (some ⟨g2, 0, none⟩), .pointer (some ⟨g3, 0, none⟩)] W fun e w' => e = .returned (.bool (openV l pl x)) ∧ Drawn0 W w' := by
  have hu := Tryd.underlying28
  have hc1 : W.cell? ⟨g2, 1, none⟩ = some (.slice A l.length c) := (blk_cell h2 1).trans rfl
  have hc3 : W.cell? ⟨g3, 0, none⟩ = some (.int .i64 pl) := (blk_cell h3 0).trans rfl
  obtain ⟨ad, rfl, hx⟩ := Kd.at_int hr x h0 h1
  have p := eq_true h0
  have q := eq_true h1
  clear h2 h3 hr
  unfold openV
  generalize rd l x = y at hx ⊢
  cases hy : (y == 0) with
  | true =>
    go_enter Tryd.func77, Tryd.ntmps77
    go_wp2_with fail
    go_quiet (fail)
    go_wp2_with fail
    go_ret
    exact ⟨by simp, ⟨_, rfl⟩⟩
  | false =>
    go_enter Tryd.func77, Tryd.ntmps77
    go_wp2_with fail
    go_quiet (fail)
    go_wp2_with fail
    go_ret
    exact ⟨by simp, ⟨_, rfl⟩⟩

theorem farInit_len (s : Int) (l : List Int) (p : Int) (i : Nat) : (farInit s l p i).length = l.length := by simp [farInit]
theorem farInit_zero (s : Int) (l : List Int) (p : Int) : farInit s l p 0 = List.replicate l.length none := by
  apply List.ext_getElem (by simp [farInit])
  intro i h1 h2
  simp [farInit]
theorem farInit_step (s : Int) (l : List Int) (p : Int) (i : Nat) (h : i < l.length) : farInit s l p (i + 1) = if ((lineV s p (i : Int) == 0) && openV l p (i : Int)) = true then (farInit s l p i).set i (some (costV l (i : Int))) else farInit s l p i := by
  apply List.ext_getElem (by split <;> simp [farInit])
  intro j h1 h2
  have hj : j < l.length := by simpa [farInit] using h1
  have e : ∀ q, (farInit s l p q)[j]'(by simpa [farInit] using hj) = if (decide (j < q) && (lineV s p (j : Int) == 0) && openV l p (j : Int)) = true then some (costV l (j : Int)) else none := fun q => by simp [farInit]
  rw [e]
  by_cases c : ((lineV s p (i : Int) == 0) && openV l p (i : Int)) = true
  · simp only [if_pos c]
    rw [List.getElem_set]
    by_cases hij : i = j
    · subst hij
      rw [if_pos rfl, decide_eq_true (by omega), Bool.true_and, if_pos c]
    · rw [if_neg hij, e]
      by_cases hlt : j < i
      · rw [decide_eq_true (by omega), decide_eq_true hlt]
      · rw [decide_eq_false (by omega), decide_eq_false hlt]
  · simp only [if_neg c]
    rw [e]
    by_cases hij : i = j
    · subst hij
      rw [decide_eq_true (by omega), decide_eq_false (Nat.lt_irrefl _), Bool.true_and, if_neg c]; simp
    · by_cases hlt : j < i
      · rw [decide_eq_true (by omega), decide_eq_true hlt]
      · rw [decide_eq_false (by omega), decide_eq_false hlt]
theorem farStep_len (l : List Int) (p n : Int) : ∀ (r : List Int) (far : List (Option Int)) (ch : Bool), (farStep l p n r far ch).1.length = far.length
  | [], _, _ => rfl
  | x :: r, far, ch => by
    unfold farStep
    split
    · rw [farStep_len l p n r]; simp
    · rw [farStep_len l p n r]
theorem farRound_len (s : Int) (l : List Int) (p : Int) : ∀ (d c : Nat) (far : List (Option Int)) (ch : Bool), (farRound s l p d c far ch).1.length = far.length
  | 0, _, _, _ => rfl
  | d + 1, c, far, ch => by
    unfold farRound
    split
    · exact farRound_len s l p d _ _ _
    · rw [farRound_len s l p d, farStep_len]
theorem mem_getD_ {far : List (Option Int)} {i : Nat} {c : Int} (h : far.getD i none = some c) : some c ∈ far := by
  by_cases hi : i < far.length
  · rw [List.getD_eq_getElem?_getD, List.getElem?_eq_getElem hi] at h
    have h : far[i] = some c := h
    rw [← h]
    exact List.getElem_mem hi
  · rw [List.getD_eq_getElem?_getD, List.getElem?_eq_none (by omega)] at h; cases h
def need_T31 : Bool × List (List Nat × List Nat) := (true, [([], []), ([], []), ([], []), ([0, 1, 2], [0, 1, 2]), ([], []), ([4], [4]), ([5], [5]), ([3, 6], [3, 6]), ([7, 3], [7]), ([8], [8]), ([9, 8], [8, 9]), ([10, 8, 8], [8, 10]), ([11], [11]), ([11], [11]), ([12, 13, 11], [11, 12, 13]), ([11, 14, 8], [8, 11, 14]), ([8, 15], [8, 15])])
def need_B31 : List Nat := [0, 0, 0, 7, 0, 16, 48, 127, 255, 511, 1023, 2047, 4095, 4095, 16383, 32767, 65535]
theorem need_tab31 : rtab .any (opsOf Tryd.f70 31) = need_T31 := by kernel_rfl
theorem need_bits31 : waitsOk need_T31.2 need_B31 = true := by kernel_rfl
theorem farRound_at (s : Int) (l : List Int) (p : Int) {i : Nat} (hi : i < l.length) (far : List (Option Int)) (ch : Bool) : farRound s l p (l.length - i) i far ch = match far.getD i none with
    | none => farRound s l p (l.length - (i + 1)) (i + 1) far ch
    | some n => farRound s l p (l.length - (i + 1)) (i + 1) (farStep l p n (nearV s (i : Int)) far ch).1 (farStep l p n (nearV s (i : Int)) far ch).2 := by
  have e : l.length - i = (l.length - (i + 1)) + 1 := by omega
  rw [e]
  rfl
theorem near_in_ {s : Int} {l : List Int} (hs : 1 ≤ s ∧ s ≤ 8) (hl : (l.length : Int) = s * s) {i : Nat} (hi : i < l.length) : (nearV s (i : Int)).length ≤ 100 ∧ ∀ z ∈ nearV s (i : Int), 0 ≤ z ∧ z < (l.length : Int) := by
  obtain ⟨n, rfl⟩ : ∃ n : Nat, s = (n : Int) := ⟨s.toNat, by omega⟩
  have hl2 : l.length = n * n := by
    have : ((n * n : Nat) : Int) = (n : Int) * (n : Int) := Int.natCast_mul n n
    omega
  have h := nearV_ok (n := n) (a := i) (by omega) (by omega) (by omega)
  have hle : (nearV (n : Int) (i : Int)).length ≤ 6 := nearTo_le _ _ _ _
  refine ⟨by omega, fun z hz => ?_⟩
  have := h.2 z hz
  omega
theorem FarIs.look {D : DataW Unit} {far : List (Option Int)} (h : FarIs D far) (x : Int) (h0 : 0 ≤ x) : Go.Maps.has D (.int .i64 x) = (far.getD x.toNat none).isSome := by
  rw [h.2.2.1 x, decide_eq_true h0, Bool.true_and]
theorem FarIs.val {D : DataW Unit} {far : List (Option Int)} (h : FarIs D far) {x m c : Int} (h0 : 0 ≤ x) (hm : far.getD x.toNat none = some m) (hat : D.atKey (.int .i64 x) (.lit (.int .i64 0)) = .lit (.int .i64 c)) : c = m := by
  rw [h.2.2.2 x m h0 hm] at hat
  injection hat with e
  injection e with _ e
  exact e.symm
theorem FarIs.entry {D : DataW Unit} {far : List (Option Int)} (h : FarIs D far) {x c : Int} (hat : ∀ zd, D.atKey (.int .i64 x) zd = .lit (.int .i64 c)) : 0 ≤ x ∧ x < far.length ∧ far.getD x.toNat none = some c := by
  have hh := Go.Maps.has_true_of_atKey hat
  rw [h.2.2.1 x] at hh
  have h0 : 0 ≤ x := by
    by_cases e : 0 ≤ x
    · exact e
    · rw [decide_eq_false e] at hh; cases hh
  rw [decide_eq_true h0, Bool.true_and] at hh
  obtain ⟨m, hm⟩ := Option.isSome_iff_exists.1 hh
  have e := h.val h0 hm (hat _)
  refine ⟨h0, ?_, by rw [hm, e]⟩
  by_cases hl : x < far.length
  · exact hl
  · rw [List.getD_eq_getElem?_getD, List.getElem?_eq_none (by omega)] at hm
    cases hm
theorem best_start {s p : Int} {n : Nat} {D : DataW Unit} {far : List (Option Int)} (h : FarIs D far) : IsBest s p n far (fun x => !Go.Maps.has D (.int .i64 x)) (-1) := by
  refine .inl ⟨rfl, fun x c h0 hn hg hf => ?_⟩
  have hg : (!Go.Maps.has D (.int .i64 x)) = true := hg
  rw [h.look x h0, hf] at hg
  cases hg
theorem key_same (x y : Int) : (Lit.int .i64 y).sameKey (.int .i64 x) = decide (y = x) := by
  by_cases h : y = x
  · subst h; simp [Lit.sameKey]
  · rw [Go.Maps.sameKey_ne (fun e => h (by injection e)), decide_eq_false h]
theorem best_step {s p : Int} {n : Nat} {far : List (Option Int)} {left : Lit → Bool} {b x c : Int} (hb : IsBest s p n far (fun y => !left (.int .i64 y)) b) (h0 : 0 ≤ x) (hn : x < n) (hf : far.getD x.toNat none = some c) (hc : 0 ≤ c) :
    IsBest s p n far (fun y => !(left (.int .i64 y) && !(Lit.int .i64 y).sameKey (.int .i64 x))) (if lineV s p x = s - 1 ∧ (b < 0 ∨ c < b) then c else b) := by
  have hg : ∀ y, (!(left (.int .i64 y) && !(Lit.int .i64 y).sameKey (.int .i64 x))) = true ↔ ((!left (.int .i64 y)) = true ∨ y = x) := fun y => by
    rw [key_same]; cases left (.int .i64 y) <;> simp
  by_cases hl : lineV s p x = s - 1
  · rcases hb with ⟨rfl, hb⟩ | ⟨hb0, ⟨z, hz0, hzn, hzg, hzf, hzl⟩, hm⟩
    · rw [if_pos ⟨hl, .inl (by omega)⟩]
      refine .inr ⟨hc, ⟨x, h0, hn, (hg x).2 (.inr rfl), hf, hl⟩, fun y d y0 yn yg yf yl => ?_⟩
      rcases (hg y).1 yg with h | h
      · exact absurd yl (hb y d y0 yn h yf)
      · subst h; rw [hf] at yf; cases yf; exact Int.le_refl _
    · by_cases hlt : c < b
      · rw [if_pos ⟨hl, .inr hlt⟩]
        refine .inr ⟨hc, ⟨x, h0, hn, (hg x).2 (.inr rfl), hf, hl⟩, fun y d y0 yn yg yf yl => ?_⟩
        rcases (hg y).1 yg with h | h
        · have := hm y d y0 yn h yf yl; omega
        · subst h; rw [hf] at yf; cases yf; exact Int.le_refl _
      · rw [if_neg (fun h => by rcases h.2 with h | h <;> omega)]
        refine .inr ⟨hb0, ⟨z, hz0, hzn, (hg z).2 (.inl hzg), hzf, hzl⟩, fun y d y0 yn yg yf yl => ?_⟩
        rcases (hg y).1 yg with h | h
        · exact hm y d y0 yn h yf yl
        · subst h; rw [hf] at yf; cases yf; omega
  · rw [if_neg (fun h => hl h.1)]
    rcases hb with ⟨rfl, hb⟩ | ⟨hb0, ⟨z, hz0, hzn, hzg, hzf, hzl⟩, hm⟩
    · refine .inl ⟨rfl, fun y d y0 yn yg yf => ?_⟩
      rcases (hg y).1 yg with h | h
      · exact hb y d y0 yn h yf
      · subst h; exact hl
    · refine .inr ⟨hb0, ⟨z, hz0, hzn, (hg z).2 (.inl hzg), hzf, hzl⟩, fun y d y0 yn yg yf yl => ?_⟩
      rcases (hg y).1 yg with h | h
      · exact hm y d y0 yn h yf yl
      · subst h; exact absurd yl hl
theorem needBest_is (s p : Int) (far : List (Option Int)) (hpos : ∀ o ∈ far, ∀ c, o = some c → 0 ≤ c) : ∀ (r : List (Option Int)) (i : Nat) (b : Int), far.drop i = r → i ≤ far.length → IsBest s p far.length far (fun y => decide (y < i)) b → IsBest s p far.length far (fun _ => true) (needBest s p r i b)
  | [], i, b, hd, hi, h => by
    have hl : i = far.length := by
      have := congrArg List.length hd
      rw [List.length_drop, List.length_nil] at this
      omega
    rw [needBest]
    rcases h with ⟨rfl, h⟩ | ⟨h0, ⟨z, hz0, hzn, _, hzf, hzl⟩, hm⟩
    · exact .inl ⟨rfl, fun x c x0 xn _ xf => h x c x0 xn (decide_eq_true (by omega)) xf⟩
    · exact .inr ⟨h0, ⟨z, hz0, hzn, rfl, hzf, hzl⟩, fun x c x0 xn _ xf xl => hm x c x0 xn (decide_eq_true (by omega)) xf xl⟩
  | o :: r, i, b, hd, hi, h => by
    have hlt : i < far.length := by
      have := congrArg List.length hd
      rw [List.length_drop, List.length_cons] at this
      omega
    rw [List.drop_eq_getElem_cons hlt] at hd
    injection hd with ho hr
    have hgi : far.getD i none = o := by rw [List.getD_eq_getElem?_getD, List.getElem?_eq_getElem hlt, ← ho]; rfl
    have hg : ∀ y : Int, decide (y < ((i + 1 : Nat) : Int)) = true ↔ (decide (y < (i : Int)) = true ∨ y = i) := fun y => by
      rw [decide_eq_true_iff, decide_eq_true_iff]; omega
    cases o with
    | none =>
      rw [needBest]
      refine needBest_is s p far hpos r (i + 1) b hr hlt ?_
      rcases h with ⟨rfl, h⟩ | ⟨h0, ⟨z, hz0, hzn, hzg, hzf, hzl⟩, hm⟩
      · refine .inl ⟨rfl, fun x c x0 xn xg xf => ?_⟩
        rcases (hg x).1 xg with e | e
        · exact h x c x0 xn e xf
        · subst e; rw [Int.toNat_natCast, hgi] at xf; cases xf
      · refine .inr ⟨h0, ⟨z, hz0, hzn, (hg z).2 (.inl hzg), hzf, hzl⟩, fun x c x0 xn xg xf xl => ?_⟩
        rcases (hg x).1 xg with e | e
        · exact hm x c x0 xn e xf xl
        · subst e; rw [Int.toNat_natCast, hgi] at xf; cases xf
    | some n =>
      rw [needBest]
      have hn0 : 0 ≤ n := hpos (some n) (by rw [← ho]; exact List.getElem_mem hlt) n rfl
      refine needBest_is s p far hpos r (i + 1) _ hr hlt ?_
      have := best_step (s := s) (p := p) (n := far.length) (far := far) (left := fun z => match z with | .int _ y => !decide (y < (i : Int)) | _ => false) (b := b) (x := (i : Int)) (c := n) (by simpa using h) (by omega) (by omega) (by rw [Int.toNat_natCast]; exact hgi) hn0
      have e : (fun y : Int => !((match (Lit.int .i64 y) with | .int _ y => !decide (y < (i : Int)) | _ => false) && !(Lit.int .i64 y).sameKey (.int .i64 (i : Int)))) = fun y => decide (y < ((i + 1 : Nat) : Int)) := by
        funext y
        rw [key_same, Bool.eq_iff_iff, hg y]
        by_cases h1 : y < (i : Int)
        · simp [h1]
        · by_cases h2 : y = (i : Int)
          · simp [h2]
          · simp [h1, h2]
      rw [e] at this
      exact this

set_option maxHeartbeats 8000000 in
set_option maxRecDepth 100000 in
theorem impl_Hex_need.calls (k : Nat) (a0_0 : Int) (A0_1 : Option Addr) (c0_1 : Nat) (l0_1 : List Int) (a1 : Int) (r : Int) (w : World) (hr0_1 : Kd.C (Kd.int .i64) w A0_1 l0_1.length l0_1) (hc0_1 : l0_1.length ≤ c0_1) (h : impl_Hex_need.f k a0_0 l0_1 a1 = some r) :
    Calls Tryd.prog 70 #[.agg #[.int .i64 a0_0, .slice A0_1 l0_1.length c0_1], .int .i64 a1] w fun e w' => e = .returned (.int .i64 r) ∧ Below w.heap.size w w' := by
  unfold impl_Hex_need.f at h
  by_cases hv : isHexV a0_0 l0_1 = true
  case neg => rw [if_neg hv] at h; cases h
  rw [if_pos hv] at h
  obtain ⟨far0, hfar, h⟩ := Option.bind_eq_some_iff.mp h
  by_cases hpos : ∀ o ∈ far0, ∀ c, o = some c → 0 ≤ c ∧ c ≤ 4611686018427387904
  case neg => rw [if_neg hpos] at h; cases h
  rw [if_pos hpos] at h
  obtain rfl := Option.some.inj h
  clear h
  obtain ⟨hs1, hs8, hlen, _⟩ := isHexV_cells hv
  have HS := Aside0.mk (show 1 ≤ a0_0 ∧ a0_0 ≤ 8 from ⟨hs1, hs8⟩)
  have HSQ := Aside0.mk hlen
  have HL64 := Aside0.mk (hex_small hv)
  have HFAR := Aside0.mk hfar
  have HPOS := Aside0.mk hpos
  have HR := Aside0.mk hr0_1
  have HC0 := Aside0.mk hc0_1
  have HB0 := Aside0.mk (Below.refl w.heap.size w)
  have hu := Tryd.underlying28
  have law : Go.Maps.Keyed Tryd.prog 2 := Go.Maps.int_keyed Tryd.underlying2
  have zeroE : ∀ W : World, (zeroValue 2).run Tryd.prog W = .ok (.int .i64 0) W := fun W => by kernel_rfl
  have hmm := @run_makeMap Tryd.prog
  have HLINE := fun (W : World) (x : Int) (hC : Kd.C (Kd.int .i64) W A0_1 l0_1.length l0_1) => impl_Hex_line.calls a0_0 A0_1 c0_1 l0_1 a1 x (lineV a0_0 a1 x) W hC HC0.out (line_val l0_1 a1 x (by have := HS.out; omega))
  clear hs1 hs8 hlen hfar hpos hr0_1 hc0_1 hv
  go_enter Tryd.func70, Tryd.ntmps70
  go_wp2_with (first | ((with_reducible refine gate_dst (N := 2) rfl ?_); refine box_event ?hg (N := 2) ?hd (cs := #[.int .i64 a0_0, .slice A0_1 l0_1.length c0_1]) (t := 28) ?hr ?_; (case hd => rfl); (case hg => rfl); (case hr => first | (go_simp; done) | (go_simp; rfl)); intro g2 hg2 w1 hbox hb; have HG2 := Aside0.mk (show w.heap.size ≤ g2 by omega); have HX2 := Aside0.mk hbox; have HB := Aside0.mk (below_step HB0.out hb); clear hbox hb hg2 HB0) | ((with_reducible refine gate_dst (N := 3) rfl ?_); refine box_event ?hg (N := 3) ?hd (cs := #[.int .i64 a1]) (t := 2) ?hr ?_; (case hd => rfl); (case hg => rfl); (case hr => first | (go_simp; done) | (go_simp; rfl)); intro g3 hg3 w2 hbox hb; have HG3 := Aside0.mk (show w.heap.size ≤ g3 ∧ g2 < g3 by have := below_size HB.out; have := blk_lt HX2.out; omega); have HX3 := Aside0.mk hbox; have nHX2_ := Aside0.mk (blk_below HX2.out hb); have nHB_ := Aside0.mk (below_step HB.out hb); clear HX2 HB hb; have HX2 := nHX2_; have HB := nHB_; clear nHX2_ nHB_; clear hbox hg3) | ((with_reducible refine gate_dst (N := 22) rfl ?_); refine map_event ?hg (N := 22) ?hd 2 (plainElem Tryd.prog 2) ?hr ?_; (case hd => rfl); (case hg => rfl); (case hr => first | (go_simp; done) | (go_simp; rfl)); intro gm hgm wm hown hb; have HG := Aside0.mk (show g2 ≠ gm ∧ g3 ≠ gm ∧ w.heap.size ≤ gm by have := below_size HB.out; have := blk_lt HX2.out; have := blk_lt HX3.out; omega); have HM := Aside0.mk (hown.mono (Nat.zero_le 64)); have nHX2_ := Aside0.mk (blk_below HX2.out hb); have nHX3_ := Aside0.mk (blk_below HX3.out hb); have nHB_ := Aside0.mk (below_step HB.out hb); clear HX2 HX3 HB hb; have HX2 := nHX2_; have HX3 := nHX3_; have HB := nHB_; clear nHX2_ nHX3_ nHB_; clear hown hgm; have hc20 := (blk_cell HX2.out 0).trans rfl; have hc21 := (blk_cell HX2.out 1).trans rfl; have hc30 := (blk_cell HX3.out 0).trans rfl) | (go_at_call 62; refine (size_run A0_1 c0_1 l0_1 _ (Kd.C_below HR.out HB.out) HC0.out).mono ?_; rintro e w_ ⟨rfl, hd⟩; have hb := hd.below; clear hd; (try clear hc20 hc21 hc30); have nHM_ := Aside0.mk (HM.out.kept (grown_of_below hb none) (by simp)); have nHX2_ := Aside0.mk (blk_below HX2.out hb); have nHX3_ := Aside0.mk (blk_below HX3.out hb); have nHB_ := Aside0.mk (below_step HB.out hb); clear HM HX2 HX3 HB hb; have HM := nHM_; have HX2 := nHX2_; have HX3 := nHX3_; have HB := nHB_; clear nHM_ nHX2_ nHX3_ nHB_; have hc20 := (blk_cell HX2.out 0).trans rfl; have hc21 := (blk_cell HX2.out 1).trans rfl; have hc30 := (blk_cell HX3.out 0).trans rfl))
  have HD0 := Aside0.mk (FarIs.empty l0_1.length)
  rw [← farInit_zero a0_0 l0_1 a1] at HD0
  (try clear hc20 hc21 hc30)
  go_loopg [26] l0_1.length (fun gg s26 wr => ∃ (i : Nat) (D : DataW Unit), i ≤ l0_1.length ∧ l0_1.length - i ≤ gg ∧ s26 = .int .i64 i ∧ Aside0 (FarIs D (farInit a0_0 l0_1 a1 i)) ∧ Aside0 (wr.ownsMap Tryd.prog 2 (plainElem Tryd.prog 2) gm 64 D) ∧ Aside0 (wr.heap[g2]? = some (.cells #[.int .i64 a0_0, .slice A0_1 l0_1.length c0_1] 28 (0, 0))) ∧ Aside0 (wr.heap[g3]? = some (.cells #[.int .i64 a1] 2 (0, 0))) ∧ Aside0 (Below w.heap.size w wr))
  case atStart => exact ⟨0, _, Nat.zero_le _, Nat.le_refl _, rfl, HD0, HM, HX2, HX3, HB⟩
  case round =>
    clear HD0 HM HX2 HX3 HB
    obtain ⟨i, D, hi, hgi, rfl, HD, HM, HX2, HX3, HB⟩ := hrel
    have hc20 := (blk_cell HX2.out 0).trans rfl; have hc21 := (blk_cell HX2.out 1).trans rfl; have hc30 := (blk_cell HX3.out 0).trans rfl
    by_cases hlt : i < l0_1.length
    · have q1 := decide_eq_true (show (i : Int) < (l0_1.length : Int) by omega)
      have q2 := decide_eq_true hlt
      have h0 : (0 : Int) ≤ (i : Int) := by omega
      have h1 : (i : Int) < (l0_1.length : Int) := by omega
      have HI := Aside0.mk (And.intro h0 h1)
      have HFS := Aside0.mk (farInit_step a0_0 l0_1 a1 i hlt)
      have HFL := Aside0.mk (show (farInit a0_0 l0_1 a1 i).length ≤ 64 by rw [farInit_len]; exact HL64.out)
      have HFN := Aside0.mk (show ((i : Int)).toNat < (farInit a0_0 l0_1 a1 i).length by rw [farInit_len, Int.toNat_natCast]; exact hlt)
      have HJm := Aside0.mk (show l0_1.length - (i + 1) < gk by omega)
      have HJr := Aside0.mk (show i + 1 ≤ l0_1.length by omega)
      have HJs := Aside0.mk (show wrap64 ((i : Int) + 1) = ((i + 1 : Nat) : Int) from wrap_next hlt (by have := HL64.out; omega))
      clear hi hgi hlt h0 h1
      cases hl0 : (lineV a0_0 a1 (i : Int) == 0) with
      | false =>
        have HNX := Aside0.mk (show farInit a0_0 l0_1 a1 (i + 1) = farInit a0_0 l0_1 a1 i by rw [HFS.out, if_neg (by rw [hl0]; simp)])
        go_wp2_with (first | (go_at_call 78; refine (HLINE _ (i : Int) (Kd.C_below HR.out HB.out)).mono ?_; rintro e w_ ⟨rfl, hb⟩; (try clear hc20 hc21 hc30); have nHM_ := Aside0.mk (HM.out.kept (grown_of_below hb none) (by simp)); have nHX2_ := Aside0.mk (blk_below HX2.out hb); have nHX3_ := Aside0.mk (blk_below HX3.out hb); have nHB_ := Aside0.mk (below_step HB.out hb); clear HM HX2 HX3 HB hb; have HM := nHM_; have HX2 := nHX2_; have HX3 := nHX3_; have HB := nHB_; clear nHM_ nHX2_ nHX3_ nHB_; have hc20 := (blk_cell HX2.out 0).trans rfl; have hc21 := (blk_cell HX2.out 1).trans rfl; have hc30 := (blk_cell HX3.out 0).trans rfl))
        go_roundg (l0_1.length - (i + 1))
        case measure => exact HJm.out
        case rel => exact ⟨i + 1, D, HJr.out, Nat.le_refl _, (by first | rfl | exact congrArg (Value.int .i64) HJs.out), ⟨by rw [HNX.out]; exact HD.out⟩, HM, HX2, HX3, HB⟩
      | true =>
        cases ho : openV l0_1 a1 (i : Int) with
        | false =>
          have HNX := Aside0.mk (show farInit a0_0 l0_1 a1 (i + 1) = farInit a0_0 l0_1 a1 i by rw [HFS.out, if_neg (by rw [ho]; simp)])
          go_wp2_with (first | (go_at_call 78; refine (HLINE _ (i : Int) (Kd.C_below HR.out HB.out)).mono ?_; rintro e w_ ⟨rfl, hb⟩; (try clear hc20 hc21 hc30); have nHM_ := Aside0.mk (HM.out.kept (grown_of_below hb none) (by simp)); have nHX2_ := Aside0.mk (blk_below HX2.out hb); have nHX3_ := Aside0.mk (blk_below HX3.out hb); have nHB_ := Aside0.mk (below_step HB.out hb); clear HM HX2 HX3 HB hb; have HM := nHM_; have HX2 := nHX2_; have HX3 := nHX3_; have HB := nHB_; clear nHM_ nHX2_ nHX3_ nHB_; have hc20 := (blk_cell HX2.out 0).trans rfl; have hc21 := (blk_cell HX2.out 1).trans rfl; have hc30 := (blk_cell HX3.out 0).trans rfl) | (go_at_call 77; refine (needOpen g2 g3 a0_0 A0_1 c0_1 l0_1 a1 _ HX2.out HX3.out (Kd.C_below HR.out HB.out) (i : Int) HI.out.1 HI.out.2).mono ?_; rintro e w_ ⟨rfl, hd⟩; have hb := hd.below; clear hd; (try clear hc20 hc21 hc30); have nHM_ := Aside0.mk (HM.out.kept (grown_of_below hb none) (by simp)); have nHX2_ := Aside0.mk (blk_below HX2.out hb); have nHX3_ := Aside0.mk (blk_below HX3.out hb); have nHB_ := Aside0.mk (below_step HB.out hb); clear HM HX2 HX3 HB hb; have HM := nHM_; have HX2 := nHX2_; have HX3 := nHX3_; have HB := nHB_; clear nHM_ nHX2_ nHX3_ nHB_; have hc20 := (blk_cell HX2.out 0).trans rfl; have hc21 := (blk_cell HX2.out 1).trans rfl; have hc30 := (blk_cell HX3.out 0).trans rfl))
          go_roundg (l0_1.length - (i + 1))
          case measure => exact HJm.out
          case rel => exact ⟨i + 1, D, HJr.out, Nat.le_refl _, (by first | rfl | exact congrArg (Value.int .i64) HJs.out), ⟨by rw [HNX.out]; exact HD.out⟩, HM, HX2, HX3, HB⟩
        | true =>
          have HNX := Aside0.mk (show farInit a0_0 l0_1 a1 (i + 1) = (farInit a0_0 l0_1 a1 i).set ((i : Int)).toNat (some (costV l0_1 (i : Int))) by rw [HFS.out, if_pos (by rw [hl0, ho]; rfl), Int.toNat_natCast])
          go_wp2_with (first | (go_at_call 78; refine (HLINE _ (i : Int) (Kd.C_below HR.out HB.out)).mono ?_; rintro e w_ ⟨rfl, hb⟩; (try clear hc20 hc21 hc30); have nHM_ := Aside0.mk (HM.out.kept (grown_of_below hb none) (by simp)); have nHX2_ := Aside0.mk (blk_below HX2.out hb); have nHX3_ := Aside0.mk (blk_below HX3.out hb); have nHB_ := Aside0.mk (below_step HB.out hb); clear HM HX2 HX3 HB hb; have HM := nHM_; have HX2 := nHX2_; have HX3 := nHX3_; have HB := nHB_; clear nHM_ nHX2_ nHX3_ nHB_; have hc20 := (blk_cell HX2.out 0).trans rfl; have hc21 := (blk_cell HX2.out 1).trans rfl; have hc30 := (blk_cell HX3.out 0).trans rfl) | (go_at_call 77; refine (needOpen g2 g3 a0_0 A0_1 c0_1 l0_1 a1 _ HX2.out HX3.out (Kd.C_below HR.out HB.out) (i : Int) HI.out.1 HI.out.2).mono ?_; rintro e w_ ⟨rfl, hd⟩; have hb := hd.below; clear hd; (try clear hc20 hc21 hc30); have nHM_ := Aside0.mk (HM.out.kept (grown_of_below hb none) (by simp)); have nHX2_ := Aside0.mk (blk_below HX2.out hb); have nHX3_ := Aside0.mk (blk_below HX3.out hb); have nHB_ := Aside0.mk (below_step HB.out hb); clear HM HX2 HX3 HB hb; have HM := nHM_; have HX2 := nHX2_; have HX3 := nHX3_; have HB := nHB_; clear nHM_ nHX2_ nHX3_ nHB_; have hc20 := (blk_cell HX2.out 0).trans rfl; have hc21 := (blk_cell HX2.out 1).trans rfl; have hc30 := (blk_cell HX3.out 0).trans rfl) | (go_at_call 76; refine (needCost g2 a0_0 A0_1 c0_1 l0_1 _ HX2.out (Kd.C_below HR.out HB.out) (i : Int) HI.out.1 HI.out.2).mono ?_; rintro e w_ ⟨rfl, hd⟩; have hb := hd.below; clear hd; (try clear hc20 hc21 hc30); have nHM_ := Aside0.mk (HM.out.kept (grown_of_below hb none) (by simp)); have nHX2_ := Aside0.mk (blk_below HX2.out hb); have nHX3_ := Aside0.mk (blk_below HX3.out hb); have nHB_ := Aside0.mk (below_step HB.out hb); clear HM HX2 HX3 HB hb; have HM := nHM_; have HX2 := nHX2_; have HX3 := nHX3_; have HB := nHB_; clear nHM_ nHX2_ nHX3_ nHB_; have hc20 := (blk_cell HX2.out 0).trans rfl; have hc21 := (blk_cell HX2.out 1).trans rfl; have hc30 := (blk_cell HX3.out 0).trans rfl) | (at_mapUpdate; refine wpList_mapUpdate_own _ rfl _ _ _ 88 rfl 2 2 law Tryd.underlying88 _ gm 64 _ rfl HM.out (by unfold maxLen; omega) _ _ _ rfl rfl (Go.Maps.keyOf_int_mk Tryd.underlying2 (wf_num_ (by have := HI.out; have := HL64.out; omega))) _ [] (plainElem_int Tryd.underlying2 (wf_num_ (by have := costV_small l0_1 (i : Int); omega))) ?_; intro wu hown1 hg1; have nF_ := Aside0.mk (FarIs.put HD.out (costV l0_1 (i : Int)) HI.out.1 (by rw [farInit_len]; exact HI.out.2)); have nM_ := Aside0.mk ((ownsMap_tight hown1).mono (Nat.le_trans (FarIs.count nF_.out) (by simp only [List.length_set]; exact HFL.out))); have n2_ := Aside0.mk (blk_grown HX2.out hg1 (by have := HG.out; intro e_; injection e_; omega)); have n3_ := Aside0.mk (blk_grown HX3.out hg1 (by have := HG.out; intro e_; injection e_; omega)); have nB_ := Aside0.mk (HB.out.grown hg1 (below_size HB.out) (fun j hj => by cases hj; exact HG.out.2.2)); skip; (try clear hc20 hc21 hc30); clear HM HX2 HX3 HB hown1 hg1 HD; have HM := nM_; have HX2 := n2_; have HX3 := n3_; have HB := nB_; have HD := nF_; clear nM_ n2_ n3_ nB_ nF_; have hc20 := (blk_cell HX2.out 0).trans rfl; have hc21 := (blk_cell HX2.out 1).trans rfl; have hc30 := (blk_cell HX3.out 0).trans rfl))
          trace_state
          go_roundg (l0_1.length - (i + 1))
          case measure => exact HJm.out
          case rel => exact ⟨i + 1, _, HJr.out, Nat.le_refl _, (by first | rfl | exact congrArg (Value.int .i64) HJs.out), ⟨by rw [HNX.out]; exact HD.out⟩, HM, HX2, HX3, HB⟩
    · have hie : i = l0_1.length := by omega
      subst hie
      have q1 := decide_eq_false (show ¬ (l0_1.length : Int) < (l0_1.length : Int) by omega)
      clear hi hgi hlt
      have HD2 := Aside0.mk (show ∃ D, FarIs D (farInit a0_0 l0_1 a1 l0_1.length) ∧ wr.ownsMap Tryd.prog 2 (plainElem Tryd.prog 2) gm 64 D from ⟨D, HD.out, HM.out⟩)
      have HK0 := Aside0.mk (Nat.le_refl k)
      generalize hf0 : farInit a0_0 l0_1 a1 l0_1.length = fr0 at HFAR HD2
      have HFL0 := Aside0.mk (show fr0.length = l0_1.length by rw [← hf0, farInit_len])
      clear hf0 HD HM
      go_wp2_with fail
      (try clear hc20 hc21 hc30)
      go_loopg [9] k (fun gg s9 wr => ∃ (kf : Nat) (ch : Bool) (far : List (Option Int)), kf ≤ gg ∧ s9 = .bool ch ∧ Aside0 (farLoop a0_0 l0_1 a1 kf ch far = some far0) ∧ Aside0 (far.length = l0_1.length) ∧ Aside0 (∃ D, FarIs D far ∧ wr.ownsMap Tryd.prog 2 (plainElem Tryd.prog 2) gm 64 D) ∧ Aside0 (wr.heap[g2]? = some (.cells #[.int .i64 a0_0, .slice A0_1 l0_1.length c0_1] 28 (0, 0))) ∧ Aside0 (wr.heap[g3]? = some (.cells #[.int .i64 a1] 2 (0, 0))) ∧ Aside0 (Below w.heap.size w wr))
      case atStart => exact ⟨k, true, fr0, Nat.le_refl _, rfl, HFAR, HFL0, HD2, HX2, HX3, HB⟩
      case round =>
        clear HD2 HX2 HX3 HB HFAR HFL0 HK0
        obtain ⟨kf, ch, far, hkf, rfl, HFK, HFLn, HDD, HX2, HX3, HB⟩ := hrel
        have hc20 := (blk_cell HX2.out 0).trans rfl; have hc21 := (blk_cell HX2.out 1).trans rfl; have hc30 := (blk_cell HX3.out 0).trans rfl
        cases ch with
        | true =>
          obtain ⟨k1, rfl⟩ : ∃ k1, kf = k1 + 1 := by
            cases kf with
            | zero => have := HFK.out; simp [farLoop] at this
            | succ k1 => exact ⟨k1, rfl⟩
          have hfk := HFK.out
          rw [farLoop, if_pos rfl] at hfk
          obtain ⟨⟨farR, chR⟩, hRR⟩ : ∃ R, farRound a0_0 l0_1 a1 l0_1.length 0 far false = R := ⟨_, rfl⟩
          rw [hRR] at hfk
          have HFK1 := Aside0.mk (show farLoop a0_0 l0_1 a1 k1 chR farR = some far0 from hfk)
          have HRR := Aside0.mk hRR
          have HKF := Aside0.mk hkf
          have HFR := Aside0.mk (show farR.length = l0_1.length by have := farRound_len a0_0 l0_1 a1 l0_1.length 0 far false; rw [HRR.out] at this; exact this.trans HFLn.out)
          clear hfk hRR hkf HFK
          obtain ⟨⟨D, HD, HM⟩⟩ := HDD
          have HD := Aside0.mk HD
          have HM := Aside0.mk HM
          go_wp2_with (first | (go_at_call 62; refine (size_run A0_1 c0_1 l0_1 _ (Kd.C_below HR.out HB.out) HC0.out).mono ?_; rintro e w_ ⟨rfl, hd⟩; have hb := hd.below; clear hd; (try clear hc20 hc21 hc30); have nHM_ := Aside0.mk (HM.out.kept (grown_of_below hb none) (by simp)); have nHX2_ := Aside0.mk (blk_below HX2.out hb); have nHX3_ := Aside0.mk (blk_below HX3.out hb); have nHB_ := Aside0.mk (below_step HB.out hb); clear HM HX2 HX3 HB hb; have HM := nHM_; have HX2 := nHX2_; have HX3 := nHX3_; have HB := nHB_; clear nHM_ nHX2_ nHX3_ nHB_; have hc20 := (blk_cell HX2.out 0).trans rfl; have hc21 := (blk_cell HX2.out 1).trans rfl; have hc30 := (blk_cell HX3.out 0).trans rfl))
          (try clear hc20 hc21 hc30)
          go_loopg [9, 49] l0_1.length (fun gg s9 s49 wr => ∃ (i : Nat) (far1 : List (Option Int)) (ch1 : Bool), i ≤ l0_1.length ∧ l0_1.length - i ≤ gg ∧ s49 = .int .i64 i ∧ s9 = .bool ch1 ∧ Aside0 (farRound a0_0 l0_1 a1 (l0_1.length - i) i far1 ch1 = (farR, chR)) ∧ Aside0 (far1.length = l0_1.length) ∧ Aside0 (∃ D, FarIs D far1 ∧ wr.ownsMap Tryd.prog 2 (plainElem Tryd.prog 2) gm 64 D) ∧ Aside0 (wr.heap[g2]? = some (.cells #[.int .i64 a0_0, .slice A0_1 l0_1.length c0_1] 28 (0, 0))) ∧ Aside0 (wr.heap[g3]? = some (.cells #[.int .i64 a1] 2 (0, 0))) ∧ Aside0 (Below w.heap.size w wr))
          case atStart => exact ⟨0, far, false, Nat.zero_le _, Nat.le_refl _, rfl, rfl, ⟨by rw [Nat.sub_zero]; exact HRR.out⟩, HFLn, ⟨D, HD.out, HM.out⟩, HX2, HX3, HB⟩
          case round =>
            clear HD HM HX2 HX3 HB HRR HFLn
            obtain ⟨i, far1, ch1, hi, hgi, rfl, rfl, HRR, HFLn, HDD, HX2, HX3, HB⟩ := hrel
            obtain ⟨⟨D, HD, HM⟩⟩ := HDD
            have HD := Aside0.mk HD
            have HM := Aside0.mk HM
            have hc20 := (blk_cell HX2.out 0).trans rfl; have hc21 := (blk_cell HX2.out 1).trans rfl; have hc30 := (blk_cell HX3.out 0).trans rfl
            by_cases hlt : i < l0_1.length
            · have q1 := decide_eq_true (show (i : Int) < (l0_1.length : Int) by omega)
              have q2 := decide_eq_true hlt
              have HI := Aside0.mk (show (0 : Int) ≤ (i : Int) ∧ (i : Int) < (l0_1.length : Int) by omega)
              have HIN := Aside0.mk hlt
              have HJm := Aside0.mk (show l0_1.length - (i + 1) < gk by omega)
              have HJr := Aside0.mk (show i + 1 ≤ l0_1.length by omega)
              have HJs := Aside0.mk (show wrap64 ((i : Int) + 1) = ((i + 1 : Nat) : Int) from wrap_next hlt (by have := HL64.out; omega))
              have HKL := Aside0.mk (Go.Maps.keyOf_int_mk (P := Tryd.prog) Tryd.underlying2 (wf_num_ (n := (i : Int)) (by have := HL64.out; omega)))
              have hrr := HRR.out
              rw [farRound_at a0_0 l0_1 a1 hlt] at hrr
              have HLK := Aside0.mk (HD.out.look (i : Int) (by omega))
              clear hi hgi hlt HRR
              cases hg : far1.getD i none with
              | none =>
                rw [hg] at hrr
                have HRR := Aside0.mk (show farRound a0_0 l0_1 a1 (l0_1.length - (i + 1)) (i + 1) far1 ch1 = (farR, chR) from hrr)
                have HHAS := Aside0.mk (show Go.Maps.has D (.int .i64 (i : Int)) = false by rw [HLK.out, Int.toNat_natCast, hg]; rfl)
                clear hrr hg HLK
                go_wp2_with (first | (at_lookup; refine wpList_lookup_own_ok_int _ rfl _ _ 88 rfl 2 2 .i64 law Tryd.underlying88 Tryd.underlying2 (zeroE _) gm 64 D rfl HM.out _ _ rfl HKL.out ?_; intro c1 hat hwc; clear hat hwc; rw [HHAS.out]))
                go_roundg (l0_1.length - (i + 1))
                case measure => exact HJm.out
                case rel => exact ⟨i + 1, far1, ch1, HJr.out, Nat.le_refl _, (by first | rfl | exact congrArg (Value.int .i64) HJs.out), rfl, HRR, HFLn, ⟨D, HD.out, HM.out⟩, HX2, HX3, HB⟩
              | some n =>
                rw [hg] at hrr
                obtain ⟨⟨S1, S2⟩, hS⟩ : ∃ S, farStep l0_1 a1 n (nearV a0_0 (i : Int)) far1 ch1 = S := ⟨_, rfl⟩
                have hrr : farRound a0_0 l0_1 a1 (l0_1.length - (i + 1)) (i + 1) (farStep l0_1 a1 n (nearV a0_0 (i : Int)) far1 ch1).1 (farStep l0_1 a1 n (nearV a0_0 (i : Int)) far1 ch1).2 = (farR, chR) := hrr
                rw [hS] at hrr
                have HRR := Aside0.mk (show farRound a0_0 l0_1 a1 (l0_1.length - (i + 1)) (i + 1) S1 S2 = (farR, chR) from hrr)
                have HSL := Aside0.mk (show S1.length = l0_1.length by have := farStep_len l0_1 a1 n (nearV a0_0 (i : Int)) far1 ch1; rw [hS] at this; exact this.trans HFLn.out)
                have HSS := Aside0.mk hS
                have HHAS := Aside0.mk (show Go.Maps.has D (.int .i64 (i : Int)) = true by rw [HLK.out, Int.toNat_natCast, hg]; rfl)
                have HVAL := Aside0.mk (fun (c : Int) (hat : D.atKey (.int .i64 (i : Int)) (.lit (.int .i64 0)) = .lit (.int .i64 c)) => HD.out.val (x := (i : Int)) (m := n) (by omega) (by rw [Int.toNat_natCast]; exact hg) hat)
                have HNF := Aside0.mk (show impl_near.f a0_0 (i : Int) = some (nearV a0_0 (i : Int)) by unfold impl_near.f; rw [if_neg (by have := HS.out; omega)])
                have HNEAR := Aside0.mk (near_in_ HS.out HSQ.out HIN.out)
                generalize nearV a0_0 (i : Int) = ys at HNF HSS HNEAR
                have HYL := Aside0.mk (show ys.length ≤ 100 from HNEAR.out.1)
                clear hrr hg HLK hS
                go_wp2_with (first | (at_lookup; refine wpList_lookup_own_ok_int _ rfl _ _ 88 rfl 2 2 .i64 law Tryd.underlying88 Tryd.underlying2 (zeroE _) gm 64 D rfl HM.out _ _ rfl HKL.out ?_; intro c1 hat hwc; obtain rfl := (HVAL.out c1 hat).symm; clear hat hwc; rw [HHAS.out]) | (go_at_call 79; refine (impl_near.calls a0_0 (i : Int) ys _ HNF.out).mono ?_; rintro e w_ ⟨v63, rfl, ho, hb⟩; obtain ⟨A63, c63, e63⟩ := Kd.R_slice ho; subst e63; have HN := Aside0.mk (Kd.R_lower (Kd.R_mono (ok' := fun k => k ≠ gm) (Kd.R_bound ho) (fun k hk => by have := hk.2.1; have := HM.out.lt; omega)) (below_size HB.out)); clear ho; (try clear hc20 hc21 hc30); have nHM_ := Aside0.mk (HM.out.kept (grown_of_below hb none) (by simp)); have nHX2_ := Aside0.mk (blk_below HX2.out hb); have nHX3_ := Aside0.mk (blk_below HX3.out hb); have nHB_ := Aside0.mk (below_step HB.out hb); clear HM HX2 HX3 HB hb; have HM := nHM_; have HX2 := nHX2_; have HX3 := nHX3_; have HB := nHB_; clear nHM_ nHX2_ nHX3_ nHB_; have hc20 := (blk_cell HX2.out 0).trans rfl; have hc21 := (blk_cell HX2.out 1).trans rfl; have hc30 := (blk_cell HX3.out 0).trans rfl))
                (try clear hc20 hc21 hc30)
                go_loopg [9, 65] ys.length (fun gg s9 s65 wr => ∃ (j : Nat) (far2 : List (Option Int)) (ch2 : Bool), j ≤ ys.length ∧ ys.length - j ≤ gg ∧ s65 = .int .i64 j ∧ s9 = .bool ch2 ∧ Aside0 (farStep l0_1 a1 n (ys.drop j) far2 ch2 = (S1, S2)) ∧ Aside0 (far2.length = l0_1.length) ∧ Aside0 (∃ D, FarIs D far2 ∧ wr.ownsMap Tryd.prog 2 (plainElem Tryd.prog 2) gm 64 D) ∧ Aside0 (wr.heap[g2]? = some (.cells #[.int .i64 a0_0, .slice A0_1 l0_1.length c0_1] 28 (0, 0))) ∧ Aside0 (wr.heap[g3]? = some (.cells #[.int .i64 a1] 2 (0, 0))) ∧ Aside0 (Kd.R (Kd.int .i64) 2 wr w.heap.size (fun k => k ≠ gm) (.slice A63 ys.length c63) ys) ∧ Aside0 (Below w.heap.size w wr))
                case atStart => exact ⟨0, far1, ch1, Nat.zero_le _, Nat.le_refl _, rfl, rfl, HSS, HFLn, ⟨D, HD.out, HM.out⟩, HX2, HX3, HN, HB⟩
                case round =>
                  clear HD HM HX2 HX3 HB HN HSS HFLn
                  obtain ⟨j, far2, ch2, hj, hgj, rfl, rfl, HSS, HFLn, HDD, HX2, HX3, HN, HB⟩ := hrel
                  obtain ⟨⟨D, HD, HM⟩⟩ := HDD
                  have HD := Aside0.mk HD
                  have HM := Aside0.mk HM
                  have hc20 := (blk_cell HX2.out 0).trans rfl; have hc21 := (blk_cell HX2.out 1).trans rfl; have hc30 := (blk_cell HX3.out 0).trans rfl
                  by_cases hlt : j < ys.length
                  · have hss := HSS.out
                    rw [List.drop_eq_getElem_cons hlt, farStep] at hss
                    obtain ⟨adz, ez, hxz⟩ := Kd.at_int (Kd.R_reads' HN.out).2.2 (j : Int) (by omega) (by omega)
                    subst ez
                    rw [Int.toNat_natCast, rd_get ys j hlt] at hxz
                    have hzb := HNEAR.out.2 ys[j] (List.getElem_mem hlt)
                    generalize ys[j] = z at hss hxz hzb
                    have HZ := Aside0.mk hzb
                    have q3 := decide_eq_true (show (j : Int) < (ys.length : Int) by omega)
                    have q4 := decide_eq_true hlt
                    have q5 := eq_true (show (j : Int) < (ys.length : Int) by omega)
                    have q6 := eq_true (show (0 : Int) ≤ (j : Int) by omega)
                    have q7 := eq_true hlt
                    have HLm := Aside0.mk (show ys.length - (j + 1) < gk by omega)
                    have HLr := Aside0.mk (show j + 1 ≤ ys.length by omega)
                    have HLs := Aside0.mk (show wrap64 ((j : Int) + 1) = ((j + 1 : Nat) : Int) from wrap_next hlt (by have := HYL.out; omega))
                    have HKL := Aside0.mk (Go.Maps.keyOf_int_mk (P := Tryd.prog) Tryd.underlying2 (wf_num_ (n := z) (by have := HL64.out; omega)))
                    have HFL := Aside0.mk (show far2.length ≤ 64 by rw [HFLn.out]; exact HL64.out)
                    have HLK := Aside0.mk (HD.out.look z hzb.1)
                    clear hj hgj hlt hzb HSS
                    cases ho : openV l0_1 a1 z with
                    | false =>
                      have HSS := Aside0.mk (show farStep l0_1 a1 n (ys.drop (j + 1)) far2 ch2 = (S1, S2) by rw [← hss, if_neg (by unfold betterV; rw [ho]; simp)])
                      obtain ⟨bm, hbm⟩ : ∃ bm, Go.Maps.has D (.int .i64 z) = bm := ⟨_, rfl⟩
                      have HHAS := Aside0.mk hbm
                      clear hss hbm HLK
                      go_wp2_with (first | (at_lookup; refine wpList_lookup_own_ok_int _ rfl _ _ 88 rfl 2 2 .i64 law Tryd.underlying88 Tryd.underlying2 (zeroE _) gm 64 D rfl HM.out _ _ rfl HKL.out ?_; intro c1 hat hwc; clear hat hwc; rw [HHAS.out]) | (go_at_call 77; refine (needOpen g2 g3 a0_0 A0_1 c0_1 l0_1 a1 _ HX2.out HX3.out (Kd.C_below HR.out HB.out) z HZ.out.1 HZ.out.2).mono ?_; rintro e w_ ⟨rfl, hd⟩; have hb := hd.below; clear hd; (try clear hc20 hc21 hc30); have nHM_ := Aside0.mk (HM.out.kept (grown_of_below hb none) (by simp)); have nHX2_ := Aside0.mk (blk_below HX2.out hb); have nHX3_ := Aside0.mk (blk_below HX3.out hb); have nHB_ := Aside0.mk (below_step HB.out hb); have nHN_ := Aside0.mk (Kd.R_below HN.out hb); clear HM HX2 HX3 HB HN hb; have HM := nHM_; have HX2 := nHX2_; have HX3 := nHX3_; have HB := nHB_; have HN := nHN_; clear nHM_ nHX2_ nHX3_ nHB_ nHN_; have hc20 := (blk_cell HX2.out 0).trans rfl; have hc21 := (blk_cell HX2.out 1).trans rfl; have hc30 := (blk_cell HX3.out 0).trans rfl))
                      go_roundg (ys.length - (j + 1))
                      case measure => exact HLm.out
                      case rel => exact ⟨j + 1, far2, ch2, HLr.out, Nat.le_refl _, (by first | rfl | exact congrArg (Value.int .i64) HLs.out), rfl, HSS, HFLn, ⟨D, HD.out, HM.out⟩, HX2, HX3, HN, HB⟩
                    | true =>
                      cases hm : far2.getD z.toNat none with
                      | none =>
                        have HSS := Aside0.mk (show farStep l0_1 a1 n (ys.drop (j + 1)) (far2.set z.toNat (some (wrap64 (n + costV l0_1 z)))) true = (S1, S2) by rw [← hss, if_pos (by unfold betterV; rw [ho, hm]; rfl)])
                        have HHAS := Aside0.mk (show Go.Maps.has D (.int .i64 z) = false by rw [HLK.out, hm]; rfl)
                        clear hss hm HLK
                        go_wp2_with (first | (at_lookup; refine wpList_lookup_own_ok_int _ rfl _ _ 88 rfl 2 2 .i64 law Tryd.underlying88 Tryd.underlying2 (zeroE _) gm 64 D rfl HM.out _ _ rfl HKL.out ?_; intro c1 hat hwc; clear hat hwc; rw [HHAS.out]) | (go_at_call 77; refine (needOpen g2 g3 a0_0 A0_1 c0_1 l0_1 a1 _ HX2.out HX3.out (Kd.C_below HR.out HB.out) z HZ.out.1 HZ.out.2).mono ?_; rintro e w_ ⟨rfl, hd⟩; have hb := hd.below; clear hd; (try clear hc20 hc21 hc30); have nHM_ := Aside0.mk (HM.out.kept (grown_of_below hb none) (by simp)); have nHX2_ := Aside0.mk (blk_below HX2.out hb); have nHX3_ := Aside0.mk (blk_below HX3.out hb); have nHB_ := Aside0.mk (below_step HB.out hb); have nHN_ := Aside0.mk (Kd.R_below HN.out hb); clear HM HX2 HX3 HB HN hb; have HM := nHM_; have HX2 := nHX2_; have HX3 := nHX3_; have HB := nHB_; have HN := nHN_; clear nHM_ nHX2_ nHX3_ nHB_ nHN_; have hc20 := (blk_cell HX2.out 0).trans rfl; have hc21 := (blk_cell HX2.out 1).trans rfl; have hc30 := (blk_cell HX3.out 0).trans rfl) | (go_at_call 76; refine (needCost g2 a0_0 A0_1 c0_1 l0_1 _ HX2.out (Kd.C_below HR.out HB.out) z HZ.out.1 HZ.out.2).mono ?_; rintro e w_ ⟨rfl, hd⟩; have hb := hd.below; clear hd; (try clear hc20 hc21 hc30); have nHM_ := Aside0.mk (HM.out.kept (grown_of_below hb none) (by simp)); have nHX2_ := Aside0.mk (blk_below HX2.out hb); have nHX3_ := Aside0.mk (blk_below HX3.out hb); have nHB_ := Aside0.mk (below_step HB.out hb); have nHN_ := Aside0.mk (Kd.R_below HN.out hb); clear HM HX2 HX3 HB HN hb; have HM := nHM_; have HX2 := nHX2_; have HX3 := nHX3_; have HB := nHB_; have HN := nHN_; clear nHM_ nHX2_ nHX3_ nHB_ nHN_; have hc20 := (blk_cell HX2.out 0).trans rfl; have hc21 := (blk_cell HX2.out 1).trans rfl; have hc30 := (blk_cell HX3.out 0).trans rfl) | (at_mapUpdate; refine wpList_mapUpdate_own _ rfl _ _ _ 88 rfl 2 2 law Tryd.underlying88 _ gm 64 _ rfl HM.out (by unfold maxLen; omega) _ _ _ rfl rfl (Go.Maps.keyOf_int_mk Tryd.underlying2 (wf_num_ (by have := HZ.out; have := HL64.out; omega))) _ [] (plainElem_int Tryd.underlying2 (wrap64_wf _)) ?_; intro wu hown1 hg1; have nF_ := Aside0.mk (FarIs.put HD.out (wrap64 (n + costV l0_1 z)) HZ.out.1 (by rw [HFLn.out]; exact HZ.out.2)); have nM_ := Aside0.mk ((ownsMap_tight hown1).mono (Nat.le_trans (FarIs.count nF_.out) (by simp only [List.length_set]; exact HFL.out))); have n2_ := Aside0.mk (blk_grown HX2.out hg1 (by have := HG.out; intro e_; injection e_; omega)); have n3_ := Aside0.mk (blk_grown HX3.out hg1 (by have := HG.out; intro e_; injection e_; omega)); have nB_ := Aside0.mk (HB.out.grown hg1 (below_size HB.out) (fun j hj => by cases hj; exact HG.out.2.2)); have nN_ := Aside0.mk (Kd.R_grown HN.out hg1 (fun k hk e_ => hk (by injection e_))); clear HN; have HN := nN_; clear nN_; (try clear hc20 hc21 hc30); clear HM HX2 HX3 HB hown1 hg1 HD; have HM := nM_; have HX2 := n2_; have HX3 := n3_; have HB := nB_; have HD := nF_; clear nM_ n2_ n3_ nB_ nF_; have hc20 := (blk_cell HX2.out 0).trans rfl; have hc21 := (blk_cell HX2.out 1).trans rfl; have hc30 := (blk_cell HX3.out 0).trans rfl))
                        go_roundg (ys.length - (j + 1))
                        case measure => exact HLm.out
                        case rel => exact ⟨j + 1, _, true, HLr.out, Nat.le_refl _, (by first | rfl | exact congrArg (Value.int .i64) HLs.out), rfl, HSS, ⟨by rw [List.length_set]; exact HFLn.out⟩, ⟨_, HD.out, HM.out⟩, HX2, HX3, HN, HB⟩
                      | some m =>
                        have HHAS := Aside0.mk (show Go.Maps.has D (.int .i64 z) = true by rw [HLK.out, hm]; rfl)
                        have HVAL := Aside0.mk (fun (c : Int) (hat : D.atKey (.int .i64 z) (.lit (.int .i64 0)) = .lit (.int .i64 c)) => HD.out.val (x := z) (m := m) HZ.out.1 hm hat)
                        by_cases hb : wrap64 (n + costV l0_1 z) < m
                        · have HSS := Aside0.mk (show farStep l0_1 a1 n (ys.drop (j + 1)) (far2.set z.toNat (some (wrap64 (n + costV l0_1 z)))) true = (S1, S2) by rw [← hss, if_pos (by unfold betterV; rw [ho, hm]; show (true && decide (wrap64 (n + costV l0_1 z) < m)) = true; rw [decide_eq_true hb]; rfl)])
                          have q8 := decide_eq_true hb
                          clear hss hm HLK hb
                          go_wp2_with (first | (at_lookup; refine wpList_lookup_own_ok_int _ rfl _ _ 88 rfl 2 2 .i64 law Tryd.underlying88 Tryd.underlying2 (zeroE _) gm 64 D rfl HM.out _ _ rfl HKL.out ?_; intro c1 hat hwc; obtain rfl := (HVAL.out c1 hat).symm; clear hat hwc; rw [HHAS.out]) | (go_at_call 77; refine (needOpen g2 g3 a0_0 A0_1 c0_1 l0_1 a1 _ HX2.out HX3.out (Kd.C_below HR.out HB.out) z HZ.out.1 HZ.out.2).mono ?_; rintro e w_ ⟨rfl, hd⟩; have hb := hd.below; clear hd; (try clear hc20 hc21 hc30); have nHM_ := Aside0.mk (HM.out.kept (grown_of_below hb none) (by simp)); have nHX2_ := Aside0.mk (blk_below HX2.out hb); have nHX3_ := Aside0.mk (blk_below HX3.out hb); have nHB_ := Aside0.mk (below_step HB.out hb); have nHN_ := Aside0.mk (Kd.R_below HN.out hb); clear HM HX2 HX3 HB HN hb; have HM := nHM_; have HX2 := nHX2_; have HX3 := nHX3_; have HB := nHB_; have HN := nHN_; clear nHM_ nHX2_ nHX3_ nHB_ nHN_; have hc20 := (blk_cell HX2.out 0).trans rfl; have hc21 := (blk_cell HX2.out 1).trans rfl; have hc30 := (blk_cell HX3.out 0).trans rfl) | (go_at_call 76; refine (needCost g2 a0_0 A0_1 c0_1 l0_1 _ HX2.out (Kd.C_below HR.out HB.out) z HZ.out.1 HZ.out.2).mono ?_; rintro e w_ ⟨rfl, hd⟩; have hb := hd.below; clear hd; (try clear hc20 hc21 hc30); have nHM_ := Aside0.mk (HM.out.kept (grown_of_below hb none) (by simp)); have nHX2_ := Aside0.mk (blk_below HX2.out hb); have nHX3_ := Aside0.mk (blk_below HX3.out hb); have nHB_ := Aside0.mk (below_step HB.out hb); have nHN_ := Aside0.mk (Kd.R_below HN.out hb); clear HM HX2 HX3 HB HN hb; have HM := nHM_; have HX2 := nHX2_; have HX3 := nHX3_; have HB := nHB_; have HN := nHN_; clear nHM_ nHX2_ nHX3_ nHB_ nHN_; have hc20 := (blk_cell HX2.out 0).trans rfl; have hc21 := (blk_cell HX2.out 1).trans rfl; have hc30 := (blk_cell HX3.out 0).trans rfl) | (at_mapUpdate; refine wpList_mapUpdate_own _ rfl _ _ _ 88 rfl 2 2 law Tryd.underlying88 _ gm 64 _ rfl HM.out (by unfold maxLen; omega) _ _ _ rfl rfl (Go.Maps.keyOf_int_mk Tryd.underlying2 (wf_num_ (by have := HZ.out; have := HL64.out; omega))) _ [] (plainElem_int Tryd.underlying2 (wrap64_wf _)) ?_; intro wu hown1 hg1; have nF_ := Aside0.mk (FarIs.put HD.out (wrap64 (n + costV l0_1 z)) HZ.out.1 (by rw [HFLn.out]; exact HZ.out.2)); have nM_ := Aside0.mk ((ownsMap_tight hown1).mono (Nat.le_trans (FarIs.count nF_.out) (by simp only [List.length_set]; exact HFL.out))); have n2_ := Aside0.mk (blk_grown HX2.out hg1 (by have := HG.out; intro e_; injection e_; omega)); have n3_ := Aside0.mk (blk_grown HX3.out hg1 (by have := HG.out; intro e_; injection e_; omega)); have nB_ := Aside0.mk (HB.out.grown hg1 (below_size HB.out) (fun j hj => by cases hj; exact HG.out.2.2)); have nN_ := Aside0.mk (Kd.R_grown HN.out hg1 (fun k hk e_ => hk (by injection e_))); clear HN; have HN := nN_; clear nN_; (try clear hc20 hc21 hc30); clear HM HX2 HX3 HB hown1 hg1 HD; have HM := nM_; have HX2 := n2_; have HX3 := n3_; have HB := nB_; have HD := nF_; clear nM_ n2_ n3_ nB_ nF_; have hc20 := (blk_cell HX2.out 0).trans rfl; have hc21 := (blk_cell HX2.out 1).trans rfl; have hc30 := (blk_cell HX3.out 0).trans rfl))
                          go_roundg (ys.length - (j + 1))
                          case measure => exact HLm.out
                          case rel => exact ⟨j + 1, _, true, HLr.out, Nat.le_refl _, (by first | rfl | exact congrArg (Value.int .i64) HLs.out), rfl, HSS, ⟨by rw [List.length_set]; exact HFLn.out⟩, ⟨_, HD.out, HM.out⟩, HX2, HX3, HN, HB⟩
                        · have HSS := Aside0.mk (show farStep l0_1 a1 n (ys.drop (j + 1)) far2 ch2 = (S1, S2) by rw [← hss, if_neg (by unfold betterV; rw [ho, hm]; show ¬ (true && decide (wrap64 (n + costV l0_1 z) < m)) = true; rw [decide_eq_false hb]; simp)])
                          have q8 := decide_eq_false hb
                          clear hss hm HLK hb
                          go_wp2_with (first | (at_lookup; refine wpList_lookup_own_ok_int _ rfl _ _ 88 rfl 2 2 .i64 law Tryd.underlying88 Tryd.underlying2 (zeroE _) gm 64 D rfl HM.out _ _ rfl HKL.out ?_; intro c1 hat hwc; obtain rfl := (HVAL.out c1 hat).symm; clear hat hwc; rw [HHAS.out]) | (go_at_call 77; refine (needOpen g2 g3 a0_0 A0_1 c0_1 l0_1 a1 _ HX2.out HX3.out (Kd.C_below HR.out HB.out) z HZ.out.1 HZ.out.2).mono ?_; rintro e w_ ⟨rfl, hd⟩; have hb := hd.below; clear hd; (try clear hc20 hc21 hc30); have nHM_ := Aside0.mk (HM.out.kept (grown_of_below hb none) (by simp)); have nHX2_ := Aside0.mk (blk_below HX2.out hb); have nHX3_ := Aside0.mk (blk_below HX3.out hb); have nHB_ := Aside0.mk (below_step HB.out hb); have nHN_ := Aside0.mk (Kd.R_below HN.out hb); clear HM HX2 HX3 HB HN hb; have HM := nHM_; have HX2 := nHX2_; have HX3 := nHX3_; have HB := nHB_; have HN := nHN_; clear nHM_ nHX2_ nHX3_ nHB_ nHN_; have hc20 := (blk_cell HX2.out 0).trans rfl; have hc21 := (blk_cell HX2.out 1).trans rfl; have hc30 := (blk_cell HX3.out 0).trans rfl) | (go_at_call 76; refine (needCost g2 a0_0 A0_1 c0_1 l0_1 _ HX2.out (Kd.C_below HR.out HB.out) z HZ.out.1 HZ.out.2).mono ?_; rintro e w_ ⟨rfl, hd⟩; have hb := hd.below; clear hd; (try clear hc20 hc21 hc30); have nHM_ := Aside0.mk (HM.out.kept (grown_of_below hb none) (by simp)); have nHX2_ := Aside0.mk (blk_below HX2.out hb); have nHX3_ := Aside0.mk (blk_below HX3.out hb); have nHB_ := Aside0.mk (below_step HB.out hb); have nHN_ := Aside0.mk (Kd.R_below HN.out hb); clear HM HX2 HX3 HB HN hb; have HM := nHM_; have HX2 := nHX2_; have HX3 := nHX3_; have HB := nHB_; have HN := nHN_; clear nHM_ nHX2_ nHX3_ nHB_ nHN_; have hc20 := (blk_cell HX2.out 0).trans rfl; have hc21 := (blk_cell HX2.out 1).trans rfl; have hc30 := (blk_cell HX3.out 0).trans rfl))
                          go_roundg (ys.length - (j + 1))
                          case measure => exact HLm.out
                          case rel => exact ⟨j + 1, far2, ch2, HLr.out, Nat.le_refl _, (by first | rfl | exact congrArg (Value.int .i64) HLs.out), rfl, HSS, HFLn, ⟨D, HD.out, HM.out⟩, HX2, HX3, HN, HB⟩
                  · have hje : j = ys.length := by omega
                    subst hje
                    have q3 := decide_eq_false (show ¬ (ys.length : Int) < (ys.length : Int) by omega)
                    have hend := HSS.out
                    rw [List.drop_eq_nil_of_le (Nat.le_refl _), farStep] at hend
                    injection hend with e1 e2
                    subst e1
                    subst e2
                    clear hj hgj hlt
                    go_wp2_with fail
                    go_roundg (l0_1.length - (i + 1))
                    case measure => exact HJm.out
                    case rel => exact ⟨i + 1, _, _, HJr.out, Nat.le_refl _, (by first | rfl | exact congrArg (Value.int .i64) HJs.out), rfl, HRR, HSL, ⟨D, HD.out, HM.out⟩, HX2, HX3, HB⟩
            · have hie : i = l0_1.length := by omega
              subst hie
              have q1 := decide_eq_false (show ¬ (l0_1.length : Int) < (l0_1.length : Int) by omega)
              have hend := HRR.out
              rw [Nat.sub_self, farRound] at hend
              injection hend with e1 e2
              subst e1
              subst e2
              clear hi hgi hlt
              go_wp2_with fail
              go_roundg k1
              case measure => have := HKF.out; omega
              case rel => exact ⟨k1, _, _, Nat.le_refl _, rfl, HFK1, HFR, ⟨D, HD.out, HM.out⟩, HX2, HX3, HB⟩
        | false =>
          have hend := HFK.out
          have hend : far = far0 := by
            cases kf with
            | zero => simp [farLoop] at hend
            | succ k1 => rw [farLoop, if_neg (by simp)] at hend; exact Option.some.inj hend
          subst hend
          obtain ⟨⟨D, HD, HM⟩⟩ := HDD
          have HD := Aside0.mk HD
          have HM := Aside0.mk HM
          clear hkf HFK
          have HBS := Aside0.mk (best_start (s := a0_0) (p := a1) (n := far.length) HD.out)
          have HCT := Aside0.mk HD.out.count
          go_wp2_with (first | (at_range; refine wpList_range_own _ rfl _ 88 rfl 2 2 law Tryd.underlying88 _ gm 64 D rfl HM.out ?_; intro w0_ hrg0 hg0 hs0))
          go_frame
          have HGr := Aside0.mk (show g2 < wr.heap.size ∧ g3 < wr.heap.size ∧ w.heap.size ≤ wr.heap.size by have := blk_lt HX2.out; have := blk_lt HX3.out; have := below_size HB.out; omega)
          have n2_ := Aside0.mk (blk_grown HX2.out hg0 (by simp))
          have n3_ := Aside0.mk (blk_grown HX3.out hg0 (by simp))
          have nB_ := Aside0.mk (HB.out.grown hg0 (below_size HB.out) (fun j hj => by cases hj))
          have HRG := Aside0.mk hrg0
          (try clear hc20 hc21 hc30)
          clear HX2 HX3 HB HM hrg0 hg0 hs0
          generalize wr.heap.size = r_ at HGr HRG ⊢
          go_loopg [17] far.length (fun gg s17 wr => ∃ (left : Lit → Bool) (cnt : Nat) (b : Int), cnt ≤ gg ∧ s17 = .int .i64 b ∧ Aside0 (IsBest a0_0 a1 far.length far (fun x => !left (.int .i64 x)) b) ∧ Aside0 (wr.ranges Tryd.prog 2 (plainElem Tryd.prog 2) gm r_ 64 D left cnt) ∧ Aside0 (wr.heap[g2]? = some (.cells #[.int .i64 a0_0, .slice A0_1 l0_1.length c0_1] 28 (0, 0))) ∧ Aside0 (wr.heap[g3]? = some (.cells #[.int .i64 a1] 2 (0, 0))) ∧ Aside0 (Below w.heap.size w wr))
          case atStart => exact ⟨_, _, -1, HCT.out, rfl, HBS, HRG, n2_, n3_, nB_⟩
          case round =>
            clear HBS HCT HRG n2_ n3_ nB_
            obtain ⟨left, cnt, b, hcn, rfl, HBS, HRG, HX2, HX3, HB⟩ := hrel
            go_wp2_with (first | (at_next; refine wpList_next_ranges_ii _ rfl _ rfl 2 2 .i64 .i64 law Tryd.underlying2 Tryd.underlying2 gm r_ 64 D left cnt rfl HRG.out ?_ ?_))
            · intro hc0 hl0
              have HV := Aside0.mk (show needBest a0_0 a1 far 0 (-1) = b from by
                have h_ := HBS.out
                have e_ : (fun x : Int => !left (.int .i64 x)) = fun _ => true := by funext x; rw [hl0]; rfl
                rw [e_] at h_
                exact (needBest_is a0_0 a1 far (fun o ho c hc => (HPOS.out o ho c hc).1) far 0 (-1) rfl (Nat.zero_le _) (.inl ⟨rfl, fun x c h1 _ hg _ => by simp at hg; omega⟩)).unique h_)
              have hv := HV.out
              subst hv
              clear HV
              go_wp2_with fail
              go_ret
              exact ⟨rfl, HB.out⟩
            · intro x c w1 cnt1 hwx hwc hlx hat hrg1 hlt hg1 hs1 hen
              obtain ⟨hx0, hxl, hxf⟩ := HD.out.entry hat
              have HBN := Aside0.mk (best_step HBS.out hx0 (by omega) hxf (HPOS.out (some c) (mem_getD_ hxf) c rfl).1)
              have n2_ := Aside0.mk (blk_grown HX2.out hg1 (by have := HGr.out; intro e_; injection e_; omega))
              have n3_ := Aside0.mk (blk_grown HX3.out hg1 (by have := HGr.out; intro e_; injection e_; omega))
              have nB_ := Aside0.mk (HB.out.grown hg1 (below_size HB.out) (fun j hj => by cases hj; exact HGr.out.2.2))
              have HCN := Aside0.mk (show cnt1 < gk by omega)
              have HSW := Aside0.mk (show wrap64 (a0_0 - 1) = a0_0 - 1 by have := HS.out; unfold wrap64; omega)
              clear HX2 HX3 HB HRG HBS hg1 hs1 hat hlx hwx hwc hlt hcn hx0 hxl hxf
              have HX2 := n2_
              have HX3 := n3_
              have HB := nB_
              have HRG := Aside0.mk hrg1
              clear n2_ n3_ nB_ hrg1
              have hc20 := (blk_cell HX2.out 0).trans rfl; have hc21 := (blk_cell HX2.out 1).trans rfl; have hc30 := (blk_cell HX3.out 0).trans rfl
              cases hl : (lineV a0_0 a1 x == wrap64 (a0_0 - 1)) with
              | false =>
                have HBE := Aside0.mk (show IsBest a0_0 a1 far.length far (fun y => !(left (.int .i64 y) && !(Lit.int .i64 y).sameKey (.int .i64 x))) b by have h_ := HBN.out; rw [if_neg (fun h => by have := beq_eq_false_iff_ne.1 hl; rw [HSW.out] at this; exact this h.1)] at h_; exact h_)
                go_wp2_with fail
                have d2_ := Aside0.mk (blk_drew HX2.out)
                have d3_ := Aside0.mk (blk_drew HX3.out)
                have dR_ := Aside0.mk (HRG.out.kept (grown_of_below (below_drew1 (Below.refl _ w1)) none) (by simp) (by simp))
                have dB_ := Aside0.mk (below_drew1 HB.out)
                clear HX2 HX3 HRG HB hc20 hc21 hc30 hen HBN
                refine start_ (n := 17) (S := fun w' => w'.cell? ⟨g2, 0, none⟩ = some (.int .i64 a0_0) ∧ w'.cell? ⟨g2, 1, none⟩ = some (.slice A0_1 l0_1.length c0_1) ∧ w'.cell? ⟨g3, 0, none⟩ = some (.int .i64 a1)) (ds := []) #[false, false, false, false, false, false, false, false, false, false, false, false, false, false, false, false, false] (by kernel_rfl) rfl rfl ⟨(blk_cell d2_.out 0).trans rfl, (blk_cell d2_.out 1).trans rfl, (blk_cell d3_.out 0).trans rfl⟩ (fun hHeld => ?_)
                refine with_tabW need_tab31 need_bits31 (fun HT_ HW_ => ?_)
                generalize hq_ : w1.drew = wd_ at d2_ d3_ dR_ dB_ hHeld ⊢
                clear hq_
                refine take_ (i := 0) (N := some 107) (v := ?_) (a' := ?_) (flg_ 17 1) rfl rfl (take_ofW HT_.out HW_.out (by kernel_rfl)) (fun _ _ _ h => h) (Or.inl ⟨by rfl, ?_⟩) hHeld ?_ ?_
                rotate_left
                · rintro w' ⟨s0_, s1_, s2_⟩
                  go_simp
                  with_reducible rfl
                rotate_left
                · simp only [Act.put, sz_, s0_, s1_, i64_w, i32_w]
                  rfl
                refine take_ (i := 1) (N := some 108) (v := ?_) (a' := ?_) (flg_ 17 3) rfl rfl (take_ofW HT_.out HW_.out (by kernel_rfl)) (fun _ _ _ h => h) (Or.inl ⟨by rfl, ?_⟩) hHeld ?_ ?_
                rotate_left
                · rintro w' ⟨s0_, s1_, s2_⟩
                  go_simp
                  with_reducible rfl
                rotate_left
                · simp only [Act.put, sz_, s0_, s1_, i64_w, i32_w]
                  rfl
                refine pure_ (i := 2) (N := some 109) (v := ?_) (a' := ?_) (flg_ 17 7) rfl rfl (any_of HT_.out (by kernel_rfl)) (fun _ _ _ h => h) (Or.inl ⟨by rfl, ?_⟩) ?_ ?_
                rotate_left
                · intro w'
                  go_simp
                  with_reducible rfl
                rotate_left
                · simp only [Act.put, sz_, s0_, s1_, i64_w, i32_w]
                  rfl
                refine pure_ (i := 4) (N := some 111) (v := ?_) (a' := ?_) (flg_ 17 23) rfl rfl (any_of HT_.out (by kernel_rfl)) (fun _ _ _ h => h) (Or.inl ⟨by rfl, ?_⟩) ?_ ?_
                rotate_left
                · intro w'
                  go_simp
                  with_reducible rfl
                rotate_left
                · simp only [Act.put, sz_, s0_, s1_, i64_w, i32_w]
                  rfl
                refine take_ (i := 5) (N := some 112) (v := ?_) (a' := ?_) (flg_ 17 55) rfl rfl (take_ofW HT_.out HW_.out (by kernel_rfl)) (fun _ _ _ h => h) (Or.inl ⟨by rfl, ?_⟩) hHeld ?_ ?_
                rotate_left
                · rintro w' ⟨s0_, s1_, s2_⟩
                  go_simp
                  with_reducible rfl
                rotate_left
                · simp only [Act.put, sz_, s0_, s1_, i64_w, i32_w]
                  rfl
                refine pure_ (i := 6) (N := some 113) (v := ?_) (a' := ?_) (flg_ 17 119) rfl rfl (any_of HT_.out (by kernel_rfl)) (fun _ _ _ h => h) (Or.inl ⟨by rfl, ?_⟩) ?_ ?_
                rotate_left
                · intro w'
                  go_simp
                  with_reducible rfl
                rotate_left
                · simp only [Act.put, sz_, s0_, s1_, i64_w, i32_w]
                  rfl
                refine one_ (i := 3) (N := some 110) (flg_ 17 127) rfl rfl (one_of HT_.out (by kernel_rfl)) (by decide) (fun K hK => ?_)
                refine goes_ Tryd.func78 (by kernel_rfl) rfl #[.agg #[.int .i64 a0_0, .slice A0_1 l0_1.length c0_1], .int .i64 a1, .int .i64 x] (by rfl) rfl rfl (by (try simp only [List.map_toArray, List.map_cons, List.map_nil]); first | done | rfl) ?_
                refine (HLINE _ x (Kd.C_below HR.out dB_.out)).mono ?_
                rintro e wa_ ⟨rfl, hb⟩
                refine ⟨_, rfl, ?_⟩
                have HX2 := Aside0.mk (blk_below d2_.out hb)
                have HX3 := Aside0.mk (blk_below d3_.out hb)
                have HRG := Aside0.mk (dR_.out.kept (grown_of_below hb none) (by simp) (by simp))
                have HB := Aside0.mk (below_step dB_.out hb)
                clear hb d2_ d3_ dR_ dB_
                refine hK.out _ _ ⟨(blk_cell HX2.out 0).trans rfl, (blk_cell HX2.out 1).trans rfl, (blk_cell HX3.out 0).trans rfl⟩ (fun hHeld => ?_)
                clear hK K
                refine norm_ (a' := ?_) ?_ ?_
                rotate_left
                · show Act.put _ (some 110) _ = _
                  simp only [Act.put, sz_, s0_, s1_, i64_w, i32_w]
                  rfl
                refine pure_ (i := 7) (N := some 114) (v := ?_) (a' := ?_) (flg_ 17 255) rfl rfl (any_of HT_.out (by kernel_rfl)) (fun _ _ _ h => h) (Or.inl ⟨by rfl, ?_⟩) ?_ ?_
                rotate_left
                · intro w'
                  go_simp
                  with_reducible rfl
                rotate_left
                · simp only [Act.put, sz_, s0_, s1_, i64_w, i32_w]
                  rfl
                refine pure_ (i := 8) (N := some 115) (v := ?_) (a' := ?_) (flg_ 17 511) rfl rfl (any_of HT_.out (by kernel_rfl)) (fun _ _ _ h => h) (Or.inl ⟨by rfl, ?_⟩) ?_ ?_
                rotate_left
                · intro w'
                  go_simp
                  with_reducible rfl
                rotate_left
                · simp only [Act.put, sz_, s0_, s1_, i64_w, i32_w]
                  rfl
                refine pure_ (i := 9) (N := some 116) (v := undef) (a' := ?_) (flg_ 17 1023) rfl rfl (any_of HT_.out (by kernel_rfl)) (fun _ _ _ h => h) (Or.inr ⟨by rfl, rfl⟩) ?_ ?_
                rotate_left
                · simp only [Act.put, sz_, s0_, s1_, i64_w, i32_w]
                  rfl
                refine pure_ (i := 10) (N := some 117) (v := undef) (a' := ?_) (flg_ 17 2047) rfl rfl (any_of HT_.out (by kernel_rfl)) (fun _ _ _ h => h) (Or.inr ⟨by rfl, rfl⟩) ?_ ?_
                rotate_left
                · simp only [Act.put, sz_, s0_, s1_, i64_w, i32_w]
                  rfl
                refine pure_ (i := 11) (N := some 118) (v := undef) (a' := ?_) (flg_ 17 4095) rfl rfl (any_of HT_.out (by kernel_rfl)) (fun _ _ _ h => h) (Or.inr ⟨by rfl, rfl⟩) ?_ ?_
                rotate_left
                · simp only [Act.put, sz_, s0_, s1_, i64_w, i32_w]
                  rfl
                refine pure_ (i := 12) (N := some 119) (v := undef) (a' := ?_) (flg_ 17 8191) rfl rfl (any_of HT_.out (by kernel_rfl)) (fun _ _ _ h => h) (Or.inr ⟨by rfl, rfl⟩) ?_ ?_
                rotate_left
                · simp only [Act.put, sz_, s0_, s1_, i64_w, i32_w]
                  rfl
                refine pure_ (i := 13) (N := some 120) (v := undef) (a' := ?_) (flg_ 17 16383) rfl rfl (any_of HT_.out (by kernel_rfl)) (fun _ _ _ h => h) (Or.inr ⟨by rfl, rfl⟩) ?_ ?_
                rotate_left
                · simp only [Act.put, sz_, s0_, s1_, i64_w, i32_w]
                  rfl
                refine pure_ (i := 14) (N := some 121) (v := undef) (a' := ?_) (flg_ 17 32767) rfl rfl (any_of HT_.out (by kernel_rfl)) (fun _ _ _ h => h) (Or.inr ⟨by rfl, rfl⟩) ?_ ?_
                rotate_left
                · simp only [Act.put, sz_, s0_, s1_, i64_w, i32_w]
                  rfl
                refine pure_ (i := 15) (N := some 122) (v := undef) (a' := ?_) (flg_ 17 65535) rfl rfl (any_of HT_.out (by kernel_rfl)) (fun _ _ _ h => h) (Or.inr ⟨by rfl, rfl⟩) ?_ ?_
                rotate_left
                · simp only [Act.put, sz_, s0_, s1_, i64_w, i32_w]
                  rfl
                refine pure_ (i := 16) (N := some 123) (v := ?_) (a' := ?_) (flg_ 17 131071) rfl rfl (any_of HT_.out (by kernel_rfl)) (fun _ _ _ h => h) (Or.inl ⟨by rfl, ?_⟩) ?_ ?_
                rotate_left
                · intro w'
                  go_simp
                  with_reducible rfl
                rotate_left
                · simp only [Act.put, sz_, s0_, s1_, i64_w, i32_w]
                  rfl
                refine done_ (done_of HT_.out (by kernel_rfl)) ?_
                go_wp2_with fail
                go_roundg cnt1
                case measure => exact HCN.out
                case rel => exact ⟨_, cnt1, b, Nat.le_refl _, rfl, HBE, HRG, HX2, HX3, HB⟩
              | true =>
                have hle := beq_iff_eq.1 hl
                rw [HSW.out] at hle
                by_cases hb0 : b < 0
                · have HBE := Aside0.mk (show IsBest a0_0 a1 far.length far (fun y => !(left (.int .i64 y) && !(Lit.int .i64 y).sameKey (.int .i64 x))) c by have h_ := HBN.out; rw [if_pos ⟨hle, .inl hb0⟩] at h_; exact h_)
                  have q1 := decide_eq_true hb0
                  clear hle hb0
                  go_wp2_with fail
                  have d2_ := Aside0.mk (blk_drew HX2.out)
                  have d3_ := Aside0.mk (blk_drew HX3.out)
                  have dR_ := Aside0.mk (HRG.out.kept (grown_of_below (below_drew1 (Below.refl _ w1)) none) (by simp) (by simp))
                  have dB_ := Aside0.mk (below_drew1 HB.out)
                  clear HX2 HX3 HRG HB hc20 hc21 hc30 hen HBN
                  refine start_ (n := 17) (S := fun w' => w'.cell? ⟨g2, 0, none⟩ = some (.int .i64 a0_0) ∧ w'.cell? ⟨g2, 1, none⟩ = some (.slice A0_1 l0_1.length c0_1) ∧ w'.cell? ⟨g3, 0, none⟩ = some (.int .i64 a1)) (ds := []) #[false, false, false, false, false, false, false, false, false, false, false, false, false, false, false, false, false] (by kernel_rfl) rfl rfl ⟨(blk_cell d2_.out 0).trans rfl, (blk_cell d2_.out 1).trans rfl, (blk_cell d3_.out 0).trans rfl⟩ (fun hHeld => ?_)
                  refine with_tabW need_tab31 need_bits31 (fun HT_ HW_ => ?_)
                  generalize hq_ : w1.drew = wd_ at d2_ d3_ dR_ dB_ hHeld ⊢
                  clear hq_
                  refine take_ (i := 0) (N := some 107) (v := ?_) (a' := ?_) (flg_ 17 1) rfl rfl (take_ofW HT_.out HW_.out (by kernel_rfl)) (fun _ _ _ h => h) (Or.inl ⟨by rfl, ?_⟩) hHeld ?_ ?_
                  rotate_left
                  · rintro w' ⟨s0_, s1_, s2_⟩
                    go_simp
                    with_reducible rfl
                  rotate_left
                  · simp only [Act.put, sz_, s0_, s1_, i64_w, i32_w]
                    rfl
                  refine take_ (i := 1) (N := some 108) (v := ?_) (a' := ?_) (flg_ 17 3) rfl rfl (take_ofW HT_.out HW_.out (by kernel_rfl)) (fun _ _ _ h => h) (Or.inl ⟨by rfl, ?_⟩) hHeld ?_ ?_
                  rotate_left
                  · rintro w' ⟨s0_, s1_, s2_⟩
                    go_simp
                    with_reducible rfl
                  rotate_left
                  · simp only [Act.put, sz_, s0_, s1_, i64_w, i32_w]
                    rfl
                  refine pure_ (i := 2) (N := some 109) (v := ?_) (a' := ?_) (flg_ 17 7) rfl rfl (any_of HT_.out (by kernel_rfl)) (fun _ _ _ h => h) (Or.inl ⟨by rfl, ?_⟩) ?_ ?_
                  rotate_left
                  · intro w'
                    go_simp
                    with_reducible rfl
                  rotate_left
                  · simp only [Act.put, sz_, s0_, s1_, i64_w, i32_w]
                    rfl
                  refine pure_ (i := 4) (N := some 111) (v := ?_) (a' := ?_) (flg_ 17 23) rfl rfl (any_of HT_.out (by kernel_rfl)) (fun _ _ _ h => h) (Or.inl ⟨by rfl, ?_⟩) ?_ ?_
                  rotate_left
                  · intro w'
                    go_simp
                    with_reducible rfl
                  rotate_left
                  · simp only [Act.put, sz_, s0_, s1_, i64_w, i32_w]
                    rfl
                  refine take_ (i := 5) (N := some 112) (v := ?_) (a' := ?_) (flg_ 17 55) rfl rfl (take_ofW HT_.out HW_.out (by kernel_rfl)) (fun _ _ _ h => h) (Or.inl ⟨by rfl, ?_⟩) hHeld ?_ ?_
                  rotate_left
                  · rintro w' ⟨s0_, s1_, s2_⟩
                    go_simp
                    with_reducible rfl
                  rotate_left
                  · simp only [Act.put, sz_, s0_, s1_, i64_w, i32_w]
                    rfl
                  refine pure_ (i := 6) (N := some 113) (v := ?_) (a' := ?_) (flg_ 17 119) rfl rfl (any_of HT_.out (by kernel_rfl)) (fun _ _ _ h => h) (Or.inl ⟨by rfl, ?_⟩) ?_ ?_
                  rotate_left
                  · intro w'
                    go_simp
                    with_reducible rfl
                  rotate_left
                  · simp only [Act.put, sz_, s0_, s1_, i64_w, i32_w]
                    rfl
                  refine one_ (i := 3) (N := some 110) (flg_ 17 127) rfl rfl (one_of HT_.out (by kernel_rfl)) (by decide) (fun K hK => ?_)
                  refine goes_ Tryd.func78 (by kernel_rfl) rfl #[.agg #[.int .i64 a0_0, .slice A0_1 l0_1.length c0_1], .int .i64 a1, .int .i64 x] (by rfl) rfl rfl (by (try simp only [List.map_toArray, List.map_cons, List.map_nil]); first | done | rfl) ?_
                  refine (HLINE _ x (Kd.C_below HR.out dB_.out)).mono ?_
                  rintro e wa_ ⟨rfl, hb⟩
                  refine ⟨_, rfl, ?_⟩
                  have HX2 := Aside0.mk (blk_below d2_.out hb)
                  have HX3 := Aside0.mk (blk_below d3_.out hb)
                  have HRG := Aside0.mk (dR_.out.kept (grown_of_below hb none) (by simp) (by simp))
                  have HB := Aside0.mk (below_step dB_.out hb)
                  clear hb d2_ d3_ dR_ dB_
                  refine hK.out _ _ ⟨(blk_cell HX2.out 0).trans rfl, (blk_cell HX2.out 1).trans rfl, (blk_cell HX3.out 0).trans rfl⟩ (fun hHeld => ?_)
                  clear hK K
                  refine norm_ (a' := ?_) ?_ ?_
                  rotate_left
                  · show Act.put _ (some 110) _ = _
                    simp only [Act.put, sz_, s0_, s1_, i64_w, i32_w]
                    rfl
                  refine pure_ (i := 7) (N := some 114) (v := ?_) (a' := ?_) (flg_ 17 255) rfl rfl (any_of HT_.out (by kernel_rfl)) (fun _ _ _ h => h) (Or.inl ⟨by rfl, ?_⟩) ?_ ?_
                  rotate_left
                  · intro w'
                    go_simp
                    with_reducible rfl
                  rotate_left
                  · simp only [Act.put, sz_, s0_, s1_, i64_w, i32_w]
                    rfl
                  refine pure_ (i := 8) (N := some 115) (v := ?_) (a' := ?_) (flg_ 17 511) rfl rfl (any_of HT_.out (by kernel_rfl)) (fun _ _ _ h => h) (Or.inl ⟨by rfl, ?_⟩) ?_ ?_
                  rotate_left
                  · intro w'
                    go_simp
                    with_reducible rfl
                  rotate_left
                  · simp only [Act.put, sz_, s0_, s1_, i64_w, i32_w]
                    rfl
                  refine pure_ (i := 9) (N := some 116) (v := ?_) (a' := ?_) (flg_ 17 1023) rfl rfl (any_of HT_.out (by kernel_rfl)) (fun _ _ _ h => h) (Or.inl ⟨by rfl, ?_⟩) ?_ ?_
                  rotate_left
                  · intro w'
                    go_simp
                    with_reducible rfl
                  rotate_left
                  · simp only [Act.put, sz_, s0_, s1_, i64_w, i32_w]
                    rfl
                  refine pure_ (i := 10) (N := some 117) (v := ?_) (a' := ?_) (flg_ 17 2047) rfl rfl (any_of HT_.out (by kernel_rfl)) (fun _ _ _ h => h) (Or.inl ⟨by rfl, ?_⟩) ?_ ?_
                  rotate_left
                  · intro w'
                    go_simp
                    with_reducible rfl
                  rotate_left
                  · simp only [Act.put, sz_, s0_, s1_, i64_w, i32_w]
                    rfl
                  refine pure_ (i := 11) (N := some 118) (v := ?_) (a' := ?_) (flg_ 17 4095) rfl rfl (any_of HT_.out (by kernel_rfl)) (fun _ _ _ h => h) (Or.inl ⟨by rfl, ?_⟩) ?_ ?_
                  rotate_left
                  · intro w'
                    go_simp
                    with_reducible rfl
                  rotate_left
                  · simp only [Act.put, sz_, s0_, s1_, i64_w, i32_w]
                    rfl
                  refine pure_ (i := 12) (N := some 119) (v := undef) (a' := ?_) (flg_ 17 8191) rfl rfl (any_of HT_.out (by kernel_rfl)) (fun _ _ _ h => h) (Or.inr ⟨by rfl, rfl⟩) ?_ ?_
                  rotate_left
                  · simp only [Act.put, sz_, s0_, s1_, i64_w, i32_w]
                    rfl
                  refine pure_ (i := 13) (N := some 120) (v := undef) (a' := ?_) (flg_ 17 16383) rfl rfl (any_of HT_.out (by kernel_rfl)) (fun _ _ _ h => h) (Or.inr ⟨by rfl, rfl⟩) ?_ ?_
                  rotate_left
                  · simp only [Act.put, sz_, s0_, s1_, i64_w, i32_w]
                    rfl
                  refine pure_ (i := 14) (N := some 121) (v := undef) (a' := ?_) (flg_ 17 32767) rfl rfl (any_of HT_.out (by kernel_rfl)) (fun _ _ _ h => h) (Or.inr ⟨by rfl, rfl⟩) ?_ ?_
                  rotate_left
                  · simp only [Act.put, sz_, s0_, s1_, i64_w, i32_w]
                    rfl
                  refine pure_ (i := 15) (N := some 122) (v := ?_) (a' := ?_) (flg_ 17 65535) rfl rfl (any_of HT_.out (by kernel_rfl)) (fun _ _ _ h => h) (Or.inl ⟨by rfl, ?_⟩) ?_ ?_
                  rotate_left
                  · intro w'
                    go_simp
                    with_reducible rfl
                  rotate_left
                  · simp only [Act.put, sz_, s0_, s1_, i64_w, i32_w]
                    rfl
                  refine pure_ (i := 16) (N := some 123) (v := ?_) (a' := ?_) (flg_ 17 131071) rfl rfl (any_of HT_.out (by kernel_rfl)) (fun _ _ _ h => h) (Or.inl ⟨by rfl, ?_⟩) ?_ ?_
                  rotate_left
                  · intro w'
                    go_simp
                    with_reducible rfl
                  rotate_left
                  · simp only [Act.put, sz_, s0_, s1_, i64_w, i32_w]
                    rfl
                  refine done_ (done_of HT_.out (by kernel_rfl)) ?_
                  go_wp2_with fail
                  go_roundg cnt1
                  case measure => exact HCN.out
                  case rel => exact ⟨_, cnt1, c, Nat.le_refl _, rfl, HBE, HRG, HX2, HX3, HB⟩
                · by_cases hcb : c < b
                  · have HBE := Aside0.mk (show IsBest a0_0 a1 far.length far (fun y => !(left (.int .i64 y) && !(Lit.int .i64 y).sameKey (.int .i64 x))) c by have h_ := HBN.out; rw [if_pos ⟨hle, .inr hcb⟩] at h_; exact h_)
                    have q1 := decide_eq_false hb0
                    have q2 := decide_eq_true hcb
                    clear hle hb0 hcb
                    go_wp2_with fail
                    have d2_ := Aside0.mk (blk_drew HX2.out)
                    have d3_ := Aside0.mk (blk_drew HX3.out)
                    have dR_ := Aside0.mk (HRG.out.kept (grown_of_below (below_drew1 (Below.refl _ w1)) none) (by simp) (by simp))
                    have dB_ := Aside0.mk (below_drew1 HB.out)
                    clear HX2 HX3 HRG HB hc20 hc21 hc30 hen HBN
                    refine start_ (n := 17) (S := fun w' => w'.cell? ⟨g2, 0, none⟩ = some (.int .i64 a0_0) ∧ w'.cell? ⟨g2, 1, none⟩ = some (.slice A0_1 l0_1.length c0_1) ∧ w'.cell? ⟨g3, 0, none⟩ = some (.int .i64 a1)) (ds := []) #[false, false, false, false, false, false, false, false, false, false, false, false, false, false, false, false, false] (by kernel_rfl) rfl rfl ⟨(blk_cell d2_.out 0).trans rfl, (blk_cell d2_.out 1).trans rfl, (blk_cell d3_.out 0).trans rfl⟩ (fun hHeld => ?_)
                    refine with_tabW need_tab31 need_bits31 (fun HT_ HW_ => ?_)
                    generalize hq_ : w1.drew = wd_ at d2_ d3_ dR_ dB_ hHeld ⊢
                    clear hq_
                    refine take_ (i := 0) (N := some 107) (v := ?_) (a' := ?_) (flg_ 17 1) rfl rfl (take_ofW HT_.out HW_.out (by kernel_rfl)) (fun _ _ _ h => h) (Or.inl ⟨by rfl, ?_⟩) hHeld ?_ ?_
                    rotate_left
                    · rintro w' ⟨s0_, s1_, s2_⟩
                      go_simp
                      with_reducible rfl
                    rotate_left
                    · simp only [Act.put, sz_, s0_, s1_, i64_w, i32_w]
                      rfl
                    refine take_ (i := 1) (N := some 108) (v := ?_) (a' := ?_) (flg_ 17 3) rfl rfl (take_ofW HT_.out HW_.out (by kernel_rfl)) (fun _ _ _ h => h) (Or.inl ⟨by rfl, ?_⟩) hHeld ?_ ?_
                    rotate_left
                    · rintro w' ⟨s0_, s1_, s2_⟩
                      go_simp
                      with_reducible rfl
                    rotate_left
                    · simp only [Act.put, sz_, s0_, s1_, i64_w, i32_w]
                      rfl
                    refine pure_ (i := 2) (N := some 109) (v := ?_) (a' := ?_) (flg_ 17 7) rfl rfl (any_of HT_.out (by kernel_rfl)) (fun _ _ _ h => h) (Or.inl ⟨by rfl, ?_⟩) ?_ ?_
                    rotate_left
                    · intro w'
                      go_simp
                      with_reducible rfl
                    rotate_left
                    · simp only [Act.put, sz_, s0_, s1_, i64_w, i32_w]
                      rfl
                    refine pure_ (i := 4) (N := some 111) (v := ?_) (a' := ?_) (flg_ 17 23) rfl rfl (any_of HT_.out (by kernel_rfl)) (fun _ _ _ h => h) (Or.inl ⟨by rfl, ?_⟩) ?_ ?_
                    rotate_left
                    · intro w'
                      go_simp
                      with_reducible rfl
                    rotate_left
                    · simp only [Act.put, sz_, s0_, s1_, i64_w, i32_w]
                      rfl
                    refine take_ (i := 5) (N := some 112) (v := ?_) (a' := ?_) (flg_ 17 55) rfl rfl (take_ofW HT_.out HW_.out (by kernel_rfl)) (fun _ _ _ h => h) (Or.inl ⟨by rfl, ?_⟩) hHeld ?_ ?_
                    rotate_left
                    · rintro w' ⟨s0_, s1_, s2_⟩
                      go_simp
                      with_reducible rfl
                    rotate_left
                    · simp only [Act.put, sz_, s0_, s1_, i64_w, i32_w]
                      rfl
                    refine pure_ (i := 6) (N := some 113) (v := ?_) (a' := ?_) (flg_ 17 119) rfl rfl (any_of HT_.out (by kernel_rfl)) (fun _ _ _ h => h) (Or.inl ⟨by rfl, ?_⟩) ?_ ?_
                    rotate_left
                    · intro w'
                      go_simp
                      with_reducible rfl
                    rotate_left
                    · simp only [Act.put, sz_, s0_, s1_, i64_w, i32_w]
                      rfl
                    refine one_ (i := 3) (N := some 110) (flg_ 17 127) rfl rfl (one_of HT_.out (by kernel_rfl)) (by decide) (fun K hK => ?_)
                    refine goes_ Tryd.func78 (by kernel_rfl) rfl #[.agg #[.int .i64 a0_0, .slice A0_1 l0_1.length c0_1], .int .i64 a1, .int .i64 x] (by rfl) rfl rfl (by (try simp only [List.map_toArray, List.map_cons, List.map_nil]); first | done | rfl) ?_
                    refine (HLINE _ x (Kd.C_below HR.out dB_.out)).mono ?_
                    rintro e wa_ ⟨rfl, hb⟩
                    refine ⟨_, rfl, ?_⟩
                    have HX2 := Aside0.mk (blk_below d2_.out hb)
                    have HX3 := Aside0.mk (blk_below d3_.out hb)
                    have HRG := Aside0.mk (dR_.out.kept (grown_of_below hb none) (by simp) (by simp))
                    have HB := Aside0.mk (below_step dB_.out hb)
                    clear hb d2_ d3_ dR_ dB_
                    refine hK.out _ _ ⟨(blk_cell HX2.out 0).trans rfl, (blk_cell HX2.out 1).trans rfl, (blk_cell HX3.out 0).trans rfl⟩ (fun hHeld => ?_)
                    clear hK K
                    refine norm_ (a' := ?_) ?_ ?_
                    rotate_left
                    · show Act.put _ (some 110) _ = _
                      simp only [Act.put, sz_, s0_, s1_, i64_w, i32_w]
                      rfl
                    refine pure_ (i := 7) (N := some 114) (v := ?_) (a' := ?_) (flg_ 17 255) rfl rfl (any_of HT_.out (by kernel_rfl)) (fun _ _ _ h => h) (Or.inl ⟨by rfl, ?_⟩) ?_ ?_
                    rotate_left
                    · intro w'
                      go_simp
                      with_reducible rfl
                    rotate_left
                    · simp only [Act.put, sz_, s0_, s1_, i64_w, i32_w]
                      rfl
                    refine pure_ (i := 8) (N := some 115) (v := ?_) (a' := ?_) (flg_ 17 511) rfl rfl (any_of HT_.out (by kernel_rfl)) (fun _ _ _ h => h) (Or.inl ⟨by rfl, ?_⟩) ?_ ?_
                    rotate_left
                    · intro w'
                      go_simp
                      with_reducible rfl
                    rotate_left
                    · simp only [Act.put, sz_, s0_, s1_, i64_w, i32_w]
                      rfl
                    refine pure_ (i := 9) (N := some 116) (v := ?_) (a' := ?_) (flg_ 17 1023) rfl rfl (any_of HT_.out (by kernel_rfl)) (fun _ _ _ h => h) (Or.inl ⟨by rfl, ?_⟩) ?_ ?_
                    rotate_left
                    · intro w'
                      go_simp
                      with_reducible rfl
                    rotate_left
                    · simp only [Act.put, sz_, s0_, s1_, i64_w, i32_w]
                      rfl
                    refine pure_ (i := 10) (N := some 117) (v := ?_) (a' := ?_) (flg_ 17 2047) rfl rfl (any_of HT_.out (by kernel_rfl)) (fun _ _ _ h => h) (Or.inl ⟨by rfl, ?_⟩) ?_ ?_
                    rotate_left
                    · intro w'
                      go_simp
                      with_reducible rfl
                    rotate_left
                    · simp only [Act.put, sz_, s0_, s1_, i64_w, i32_w]
                      rfl
                    refine pure_ (i := 11) (N := some 118) (v := ?_) (a' := ?_) (flg_ 17 4095) rfl rfl (any_of HT_.out (by kernel_rfl)) (fun _ _ _ h => h) (Or.inl ⟨by rfl, ?_⟩) ?_ ?_
                    rotate_left
                    · intro w'
                      go_simp
                      with_reducible rfl
                    rotate_left
                    · simp only [Act.put, sz_, s0_, s1_, i64_w, i32_w]
                      rfl
                    refine pure_ (i := 12) (N := some 119) (v := ?_) (a' := ?_) (flg_ 17 8191) rfl rfl (any_of HT_.out (by kernel_rfl)) (fun _ _ _ h => h) (Or.inl ⟨by rfl, ?_⟩) ?_ ?_
                    rotate_left
                    · intro w'
                      go_simp
                      with_reducible rfl
                    rotate_left
                    · simp only [Act.put, sz_, s0_, s1_, i64_w, i32_w]
                      rfl
                    refine pure_ (i := 13) (N := some 120) (v := ?_) (a' := ?_) (flg_ 17 16383) rfl rfl (any_of HT_.out (by kernel_rfl)) (fun _ _ _ h => h) (Or.inl ⟨by rfl, ?_⟩) ?_ ?_
                    rotate_left
                    · intro w'
                      go_simp
                      with_reducible rfl
                    rotate_left
                    · simp only [Act.put, sz_, s0_, s1_, i64_w, i32_w]
                      rfl
                    refine pure_ (i := 14) (N := some 121) (v := ?_) (a' := ?_) (flg_ 17 32767) rfl rfl (any_of HT_.out (by kernel_rfl)) (fun _ _ _ h => h) (Or.inl ⟨by rfl, ?_⟩) ?_ ?_
                    rotate_left
                    · intro w'
                      go_simp
                      with_reducible rfl
                    rotate_left
                    · simp only [Act.put, sz_, s0_, s1_, i64_w, i32_w]
                      rfl
                    refine pure_ (i := 15) (N := some 122) (v := ?_) (a' := ?_) (flg_ 17 65535) rfl rfl (any_of HT_.out (by kernel_rfl)) (fun _ _ _ h => h) (Or.inl ⟨by rfl, ?_⟩) ?_ ?_
                    rotate_left
                    · intro w'
                      go_simp
                      with_reducible rfl
                    rotate_left
                    · simp only [Act.put, sz_, s0_, s1_, i64_w, i32_w]
                      rfl
                    refine pure_ (i := 16) (N := some 123) (v := ?_) (a' := ?_) (flg_ 17 131071) rfl rfl (any_of HT_.out (by kernel_rfl)) (fun _ _ _ h => h) (Or.inl ⟨by rfl, ?_⟩) ?_ ?_
                    rotate_left
                    · intro w'
                      go_simp
                      with_reducible rfl
                    rotate_left
                    · simp only [Act.put, sz_, s0_, s1_, i64_w, i32_w]
                      rfl
                    refine done_ (done_of HT_.out (by kernel_rfl)) ?_
                    go_wp2_with fail
                    go_roundg cnt1
                    case measure => exact HCN.out
                    case rel => exact ⟨_, cnt1, c, Nat.le_refl _, rfl, HBE, HRG, HX2, HX3, HB⟩
                  · have HBE := Aside0.mk (show IsBest a0_0 a1 far.length far (fun y => !(left (.int .i64 y) && !(Lit.int .i64 y).sameKey (.int .i64 x))) b by have h_ := HBN.out; rw [if_neg (fun h => by rcases h.2 with h | h; exact hb0 h; exact hcb h)] at h_; exact h_)
                    have q1 := decide_eq_false hb0
                    have q2 := decide_eq_false hcb
                    clear hle hb0 hcb
                    go_wp2_with fail
                    have d2_ := Aside0.mk (blk_drew HX2.out)
                    have d3_ := Aside0.mk (blk_drew HX3.out)
                    have dR_ := Aside0.mk (HRG.out.kept (grown_of_below (below_drew1 (Below.refl _ w1)) none) (by simp) (by simp))
                    have dB_ := Aside0.mk (below_drew1 HB.out)
                    clear HX2 HX3 HRG HB hc20 hc21 hc30 hen HBN
                    refine start_ (n := 17) (S := fun w' => w'.cell? ⟨g2, 0, none⟩ = some (.int .i64 a0_0) ∧ w'.cell? ⟨g2, 1, none⟩ = some (.slice A0_1 l0_1.length c0_1) ∧ w'.cell? ⟨g3, 0, none⟩ = some (.int .i64 a1)) (ds := []) #[false, false, false, false, false, false, false, false, false, false, false, false, false, false, false, false, false] (by kernel_rfl) rfl rfl ⟨(blk_cell d2_.out 0).trans rfl, (blk_cell d2_.out 1).trans rfl, (blk_cell d3_.out 0).trans rfl⟩ (fun hHeld => ?_)
                    refine with_tabW need_tab31 need_bits31 (fun HT_ HW_ => ?_)
                    generalize hq_ : w1.drew = wd_ at d2_ d3_ dR_ dB_ hHeld ⊢
                    clear hq_
                    refine take_ (i := 0) (N := some 107) (v := ?_) (a' := ?_) (flg_ 17 1) rfl rfl (take_ofW HT_.out HW_.out (by kernel_rfl)) (fun _ _ _ h => h) (Or.inl ⟨by rfl, ?_⟩) hHeld ?_ ?_
                    rotate_left
                    · rintro w' ⟨s0_, s1_, s2_⟩
                      go_simp
                      with_reducible rfl
                    rotate_left
                    · simp only [Act.put, sz_, s0_, s1_, i64_w, i32_w]
                      rfl
                    refine take_ (i := 1) (N := some 108) (v := ?_) (a' := ?_) (flg_ 17 3) rfl rfl (take_ofW HT_.out HW_.out (by kernel_rfl)) (fun _ _ _ h => h) (Or.inl ⟨by rfl, ?_⟩) hHeld ?_ ?_
                    rotate_left
                    · rintro w' ⟨s0_, s1_, s2_⟩
                      go_simp
                      with_reducible rfl
                    rotate_left
                    · simp only [Act.put, sz_, s0_, s1_, i64_w, i32_w]
                      rfl
                    refine pure_ (i := 2) (N := some 109) (v := ?_) (a' := ?_) (flg_ 17 7) rfl rfl (any_of HT_.out (by kernel_rfl)) (fun _ _ _ h => h) (Or.inl ⟨by rfl, ?_⟩) ?_ ?_
                    rotate_left
                    · intro w'
                      go_simp
                      with_reducible rfl
                    rotate_left
                    · simp only [Act.put, sz_, s0_, s1_, i64_w, i32_w]
                      rfl
                    refine pure_ (i := 4) (N := some 111) (v := ?_) (a' := ?_) (flg_ 17 23) rfl rfl (any_of HT_.out (by kernel_rfl)) (fun _ _ _ h => h) (Or.inl ⟨by rfl, ?_⟩) ?_ ?_
                    rotate_left
                    · intro w'
                      go_simp
                      with_reducible rfl
                    rotate_left
                    · simp only [Act.put, sz_, s0_, s1_, i64_w, i32_w]
                      rfl
                    refine take_ (i := 5) (N := some 112) (v := ?_) (a' := ?_) (flg_ 17 55) rfl rfl (take_ofW HT_.out HW_.out (by kernel_rfl)) (fun _ _ _ h => h) (Or.inl ⟨by rfl, ?_⟩) hHeld ?_ ?_
                    rotate_left
                    · rintro w' ⟨s0_, s1_, s2_⟩
                      go_simp
                      with_reducible rfl
                    rotate_left
                    · simp only [Act.put, sz_, s0_, s1_, i64_w, i32_w]
                      rfl
                    refine pure_ (i := 6) (N := some 113) (v := ?_) (a' := ?_) (flg_ 17 119) rfl rfl (any_of HT_.out (by kernel_rfl)) (fun _ _ _ h => h) (Or.inl ⟨by rfl, ?_⟩) ?_ ?_
                    rotate_left
                    · intro w'
                      go_simp
                      with_reducible rfl
                    rotate_left
                    · simp only [Act.put, sz_, s0_, s1_, i64_w, i32_w]
                      rfl
                    refine one_ (i := 3) (N := some 110) (flg_ 17 127) rfl rfl (one_of HT_.out (by kernel_rfl)) (by decide) (fun K hK => ?_)
                    refine goes_ Tryd.func78 (by kernel_rfl) rfl #[.agg #[.int .i64 a0_0, .slice A0_1 l0_1.length c0_1], .int .i64 a1, .int .i64 x] (by rfl) rfl rfl (by (try simp only [List.map_toArray, List.map_cons, List.map_nil]); first | done | rfl) ?_
                    refine (HLINE _ x (Kd.C_below HR.out dB_.out)).mono ?_
                    rintro e wa_ ⟨rfl, hb⟩
                    refine ⟨_, rfl, ?_⟩
                    have HX2 := Aside0.mk (blk_below d2_.out hb)
                    have HX3 := Aside0.mk (blk_below d3_.out hb)
                    have HRG := Aside0.mk (dR_.out.kept (grown_of_below hb none) (by simp) (by simp))
                    have HB := Aside0.mk (below_step dB_.out hb)
                    clear hb d2_ d3_ dR_ dB_
                    refine hK.out _ _ ⟨(blk_cell HX2.out 0).trans rfl, (blk_cell HX2.out 1).trans rfl, (blk_cell HX3.out 0).trans rfl⟩ (fun hHeld => ?_)
                    clear hK K
                    refine norm_ (a' := ?_) ?_ ?_
                    rotate_left
                    · show Act.put _ (some 110) _ = _
                      simp only [Act.put, sz_, s0_, s1_, i64_w, i32_w]
                      rfl
                    refine pure_ (i := 7) (N := some 114) (v := ?_) (a' := ?_) (flg_ 17 255) rfl rfl (any_of HT_.out (by kernel_rfl)) (fun _ _ _ h => h) (Or.inl ⟨by rfl, ?_⟩) ?_ ?_
                    rotate_left
                    · intro w'
                      go_simp
                      with_reducible rfl
                    rotate_left
                    · simp only [Act.put, sz_, s0_, s1_, i64_w, i32_w]
                      rfl
                    refine pure_ (i := 8) (N := some 115) (v := ?_) (a' := ?_) (flg_ 17 511) rfl rfl (any_of HT_.out (by kernel_rfl)) (fun _ _ _ h => h) (Or.inl ⟨by rfl, ?_⟩) ?_ ?_
                    rotate_left
                    · intro w'
                      go_simp
                      with_reducible rfl
                    rotate_left
                    · simp only [Act.put, sz_, s0_, s1_, i64_w, i32_w]
                      rfl
                    refine pure_ (i := 9) (N := some 116) (v := ?_) (a' := ?_) (flg_ 17 1023) rfl rfl (any_of HT_.out (by kernel_rfl)) (fun _ _ _ h => h) (Or.inl ⟨by rfl, ?_⟩) ?_ ?_
                    rotate_left
                    · intro w'
                      go_simp
                      with_reducible rfl
                    rotate_left
                    · simp only [Act.put, sz_, s0_, s1_, i64_w, i32_w]
                      rfl
                    refine pure_ (i := 10) (N := some 117) (v := ?_) (a' := ?_) (flg_ 17 2047) rfl rfl (any_of HT_.out (by kernel_rfl)) (fun _ _ _ h => h) (Or.inl ⟨by rfl, ?_⟩) ?_ ?_
                    rotate_left
                    · intro w'
                      go_simp
                      with_reducible rfl
                    rotate_left
                    · simp only [Act.put, sz_, s0_, s1_, i64_w, i32_w]
                      rfl
                    refine pure_ (i := 11) (N := some 118) (v := ?_) (a' := ?_) (flg_ 17 4095) rfl rfl (any_of HT_.out (by kernel_rfl)) (fun _ _ _ h => h) (Or.inl ⟨by rfl, ?_⟩) ?_ ?_
                    rotate_left
                    · intro w'
                      go_simp
                      with_reducible rfl
                    rotate_left
                    · simp only [Act.put, sz_, s0_, s1_, i64_w, i32_w]
                      rfl
                    refine pure_ (i := 12) (N := some 119) (v := ?_) (a' := ?_) (flg_ 17 8191) rfl rfl (any_of HT_.out (by kernel_rfl)) (fun _ _ _ h => h) (Or.inl ⟨by rfl, ?_⟩) ?_ ?_
                    rotate_left
                    · intro w'
                      go_simp
                      with_reducible rfl
                    rotate_left
                    · simp only [Act.put, sz_, s0_, s1_, i64_w, i32_w]
                      rfl
                    refine pure_ (i := 13) (N := some 120) (v := ?_) (a' := ?_) (flg_ 17 16383) rfl rfl (any_of HT_.out (by kernel_rfl)) (fun _ _ _ h => h) (Or.inl ⟨by rfl, ?_⟩) ?_ ?_
                    rotate_left
                    · intro w'
                      go_simp
                      with_reducible rfl
                    rotate_left
                    · simp only [Act.put, sz_, s0_, s1_, i64_w, i32_w]
                      rfl
                    refine pure_ (i := 14) (N := some 121) (v := ?_) (a' := ?_) (flg_ 17 32767) rfl rfl (any_of HT_.out (by kernel_rfl)) (fun _ _ _ h => h) (Or.inl ⟨by rfl, ?_⟩) ?_ ?_
                    rotate_left
                    · intro w'
                      go_simp
                      with_reducible rfl
                    rotate_left
                    · simp only [Act.put, sz_, s0_, s1_, i64_w, i32_w]
                      rfl
                    refine pure_ (i := 15) (N := some 122) (v := ?_) (a' := ?_) (flg_ 17 65535) rfl rfl (any_of HT_.out (by kernel_rfl)) (fun _ _ _ h => h) (Or.inl ⟨by rfl, ?_⟩) ?_ ?_
                    rotate_left
                    · intro w'
                      go_simp
                      with_reducible rfl
                    rotate_left
                    · simp only [Act.put, sz_, s0_, s1_, i64_w, i32_w]
                      rfl
                    refine pure_ (i := 16) (N := some 123) (v := ?_) (a' := ?_) (flg_ 17 131071) rfl rfl (any_of HT_.out (by kernel_rfl)) (fun _ _ _ h => h) (Or.inl ⟨by rfl, ?_⟩) ?_ ?_
                    rotate_left
                    · intro w'
                      go_simp
                      with_reducible rfl
                    rotate_left
                    · simp only [Act.put, sz_, s0_, s1_, i64_w, i32_w]
                      rfl
                    refine done_ (done_of HT_.out (by kernel_rfl)) ?_
                    go_wp2_with fail
                    go_roundg cnt1
                    case measure => exact HCN.out
                    case rel => exact ⟨_, cnt1, b, Nat.le_refl _, rfl, HBE, HRG, HX2, HX3, HB⟩
/-! ### impl_Hex_joiner: function 49 -/
def impl_Hex_joiner.l0 : Nat → List Int → Int → Int → Int → List Int → Option (Int)
 | 0, _, _, _, _, _ => none
 | k + 1, x5, x6, x7, x248000, x248001 => if x7 < x6 then (if 0 ≤ x7 then (if x7 < (x5.length : Int) then ((impl_Hex_need.f k x248000 x248001 (rd x5 x7)).bind fun t252 => (if t252 = 0 then (some (rd x5 x7)) else (impl_Hex_joiner.l0 k x5 x6 (wrap64 (x7 + 1)) x248000 x248001))) else (none)) else (none)) else (some 0)
def impl_Hex_joiner.f (k : Nat) (a0_0 : Int) (l0_1 : List Int) : Option (Int) := (some (([1, 2] : List Int) : List Int)).bind fun y248 => (impl_Hex_joiner.l0 k y248 (y248.length : Int) 0 a0_0 l0_1)
set_option maxHeartbeats 8000000 in
set_option maxRecDepth 100000 in
theorem impl_Hex_joiner.calls (k : Nat) (a0_0 : Int) (A0_1 : Option Addr) (c0_1 : Nat) (l0_1 : List Int) (r : Int) (w : World) (hr0_1 : Kd.C (Kd.int .i64) w A0_1 l0_1.length l0_1) (hc0_1 : l0_1.length ≤ c0_1) (h : impl_Hex_joiner.f k a0_0 l0_1 = some r) :
  Calls Tryd.prog 49 #[.agg #[.int .i64 a0_0, .slice A0_1 l0_1.length c0_1]] w fun e w' => e = .returned (.int .i64 r) ∧ Below w.heap.size w w' := by
 have hu28 := Tryd.underlying28
 have HR0_1 := Aside0.mk hr0_1
 have HC0_1 := Aside0.mk hc0_1
 clear hr0_1 hc0_1
 have HB := Aside0.mk (Below.refl w.heap.size w)
 have H : ((some (([1, 2] : List Int) : List Int)).bind fun y248 => (impl_Hex_joiner.l0 k y248 (y248.length : Int) 0 a0_0 l0_1)) = some r := h
 clear h
 obtain ⟨y248, hy248⟩ : ∃ y_ : List Int, y_ = (([1, 2] : List Int)) := ⟨_, rfl⟩
 replace H : (impl_Hex_joiner.l0 k y248 (y248.length : Int) 0 a0_0 l0_1) = some r := by first | (rw [hy248]; with_reducible exact H) | (have H2_ := (Option.bind_some _ _).symm.trans H; rw [hy248]; with_reducible exact H2_) | (have H2_ := (Option.bind_some _ _).symm.trans H; with_reducible exact H2_) | with_reducible exact H | (rw [hy248]; exact H) | exact H
 have Ny248 := Aside0.mk hy248
 clear hy248
 have H' := Aside0.mk H
 clear H
 go_enter Tryd.func49, Tryd.ntmps49
 go_wp2_with (first | ((with_reducible refine gate_dst (N := 1) rfl ?_); refine box_event ?hg (N := 1) ?hd (cs := #[.int .i64 a0_0, .slice A0_1 l0_1.length c0_1]) (t := 28) ?hr ?_; (case hd => rfl); (case hg => rfl); (case hr => first | (go_simp; done) | (go_simp; rfl)); intro gb247 hg w2 hbox hb; have n0_ := Aside0.mk (below_step hb_ hb); have n1_ := Aside0.mk (hbox); have n2_ := Aside0.mk ((by rw [hg]; exact (below_size hb_) : w.heap.size ≤ gb247)); have n3_ := Aside0.mk ((by rw [hg]; exact (below_size hb_) : w.heap.size ≤ gb247)); clear HB; have HB := n0_; have BK247 := n1_; have GW247 := n2_; have GE247 := n3_; clear n0_ n1_ n2_ n3_; clear hb hbox hg) | ((with_reducible refine gate_dst (N := 5) rfl ?_); refine Kd.R_lit (Kd.int .i64) _ 2 ?hg (N := 5) ?hd (xs := ([1, 2] : List Int)) (inner := [.int .i64 1, .int .i64 2]) (ok := fun _ => True) (okp := fun _ => True) ?hr ?hp (fun _ hk => hk) trivial (Below.refl _ _) (Nat.le_refl _) (by simp) ?_; (case hd => rfl); (case hg => rfl); (case hr => first | (go_simp; done) | (go_simp; rfl)); (case hp => exact (Reps.one (show Kd.M (Kd.int .i64) _ _ _ 1 [.int .i64 1] from rfl) (Reps.one (show Kd.M (Kd.int .i64) _ _ _ 2 [.int .i64 2] from rfl) (Reps.none _ _)))); intro v249 w3 ho4 hb hg_ hnew_; clear hg_ hnew_; (first | rw [← Ny248.out] at ho4 | (simp only [Int.reduceToNat] at ho4; rw [← Ny248.out] at ho4)); have n0_ := Aside0.mk (Kd.R_lower ho4 (below_size (by repeat (first | (with_reducible first | exact HB.out | apply below_alloc | apply pw_below_drewN | apply below_drew1 | refine below_set ?_ GE247.out) | exact HB.out)))); have n1_ := Aside0.mk (blk_below (g := gb247) (o := .cells #[.int .i64 a0_0, .slice A0_1 l0_1.length c0_1] 28 (0, 0)) (by (with_reducible repeat (first | refine blk_drewN ?_ _ | refine blk_drew ?_ | refine blk_alloc ?_ _)); exact BK247.out) hb); have n2_ := Aside0.mk (below_step (by repeat (first | (with_reducible first | exact HB.out | apply below_alloc | apply pw_below_drewN | apply below_drew1 | refine below_set ?_ GE247.out) | exact HB.out)) hb); clear BK247; clear HB; have HO250 := n0_; have BK247 := n1_; have HB := n2_; clear n0_ n1_ n2_; clear hb ho4; obtain ⟨Ao5, co5, eo5⟩ := Kd.R_slice HO250.out; subst eo5))
 go_loopg [7] k (fun kq v7 w' => ∃ (x7_1 : Int), v7 = .int .i64 x7_1 ∧ Aside0 (impl_Hex_joiner.l0 kq y248 (y248.length : Int) x7_1 a0_0 l0_1 = some r) ∧ Aside0 (kq ≤ k) ∧ Aside0 (Kd.R (Kd.int .i64) 2 w' w.heap.size (fun _ => True) (.slice Ao5 y248.length co5) y248) ∧ Aside0 (w'.heap[gb247]? = some (.cells #[.int .i64 a0_0, (.slice A0_1 l0_1.length c0_1)] 28 (0, 0))) ∧ Aside0 (Below w.heap.size w w'))
 case atStart => exact ⟨(0), (by first | rfl | (simp; done) | (simp [*]; done)), H', ⟨Nat.le_refl _⟩, ⟨by (with_reducible repeat (first | apply Kd.R_alloc | apply Kd.R_drewN | apply Kd.R_drew)); exact HO250.out⟩, ⟨by (with_reducible repeat (first | refine blk_drewN ?_ _ | refine blk_drew ?_ | refine blk_alloc ?_ _)); exact BK247.out⟩, ⟨by repeat (first | (with_reducible first | exact HB.out | apply below_alloc | apply pw_below_drewN | apply below_drew1 | refine below_set ?_ GE247.out) | exact HB.out)⟩⟩
 case round =>
  clear H'
  (try clear p2); (try clear c4)
  obtain ⟨x7_1, rfl, HA, HK1, HO_5, BK247, HB⟩ := hrel
  cases gk with
  | zero => exact absurd HA.out (by simp [impl_Hex_joiner.l0])
  | succ k1 =>
   have H := HA.out
   clear HA
   simp only [impl_Hex_joiner.l0] at H
   by_cases c6 : x7_1 < (y248.length : Int)
   ·rw [if_pos c6] at H
    have c6b0 : decide (x7_1 < (y248.length : Int)) = true := decide_eq_true c6
    clear c6
    by_cases c7 : 0 ≤ x7_1
    ·rw [if_pos c7] at H
     have c7b0 : decide (0 ≤ x7_1) = true := decide_eq_true c7
     clear c7
     by_cases c8 : x7_1 < (y248.length : Int)
     ·rw [if_pos c8] at H
      have c8b0 : decide (x7_1 < (y248.length : Int)) = true := decide_eq_true c8
      clear c8
      replace H := Option.bind_eq_some_iff.mp H
      obtain ⟨t252, A90, H⟩ := H
      replace H : (if t252 = 0 then (some (rd y248 x7_1)) else (impl_Hex_joiner.l0 k1 y248 (y248.length : Int) (wrap64 (x7_1 + 1)) a0_0 l0_1)) = some r := H
      have A9 := Aside0.mk A90
      clear A90
      by_cases c10 : t252 = 0
      ·rw [if_pos c10] at H
       have c10b0 : (t252 == 0) = true := beq_iff_eq.mpr c10
       have c10b1 : (t252 != 0) = false := bne_eq_false_iff_eq.mpr c10
       clear c10
       obtain rfl := Option.some.inj H
       have p251 : 0 ≤ (x7_1 : Int) := oda
       have q251 : x7_1 < (y248.length : Int) := oda
       obtain ⟨ad251, e251, hx251_0⟩ := Kd.at_int (Kd.R_reads' HO_5.out).2.2 x7_1 p251 q251
       cases e251
       replace p251 := eq_true p251
       replace q251 := eq_true q251
       have hcz11_0 : wr.cell? ⟨gb247, 0, none⟩ = some (.int .i64 a0_0) := (blk_cell BK247.out 0).trans rfl
       have hcz11_1 : wr.cell? ⟨gb247, 1, none⟩ = some (.slice A0_1 l0_1.length c0_1) := (blk_cell BK247.out 1).trans rfl
       have hfz11_0 := blk_frozen BK247.out 0
       have hfz11_1 := blk_frozen BK247.out 1
       go_wp2_with (first | ((with_reducible refine gate_callee (f := 70) rfl ?_); refine goesA_ (some 13) rfl rfl Tryd.func70 (by kernel_rfl) rfl #[.agg #[.int .i64 a0_0, .slice A0_1 l0_1.length c0_1], .int .i64 (rd y248 x7_1)] rfl ?_; (with_reducible refine (impl_Hex_need.calls k1 a0_0 _ _ l0_1 (rd y248 x7_1) t252 _ ?side1 ?side2 A9.out).mono ?_); (case side1 => repeat (first | exact (Kd.C_below HR0_1.out HB.out) | (with_reducible refine Kd.C_alloc ?_ _) | (with_reducible refine Kd.C_drewN ?_ _) | (with_reducible refine Kd.C_drew ?_))); (case side2 => exact HC0_1.out); rintro e w12 ⟨rfl, hb⟩; refine ⟨_, rfl, ?_⟩; have n0_ := Aside0.mk (Kd.R_below (by (with_reducible repeat (first | apply Kd.R_alloc | apply Kd.R_drewN | apply Kd.R_drew)); exact HO_5.out) hb); have n1_ := Aside0.mk (blk_below (g := gb247) (o := .cells #[.int .i64 a0_0, .slice A0_1 l0_1.length c0_1] 28 (0, 0)) (by (with_reducible repeat (first | refine blk_drewN ?_ _ | refine blk_drew ?_ | refine blk_alloc ?_ _)); exact BK247.out) hb); have n2_ := Aside0.mk (below_step (by repeat (first | (with_reducible first | exact HB.out | apply below_alloc | apply pw_below_drewN | apply below_drew1 | refine below_set ?_ GE247.out) | exact HB.out)) hb); clear HO_5; clear BK247; clear HB; have HO_5 := n0_; have BK247 := n1_; have HB := n2_; clear n0_ n1_ n2_; (try clear hb); (try clear hb2); (try clear hk); (try clear hi)))
       go_ret
       exact ⟨by first | rfl | (simp [errW_none, errW_some] <;> rfl) | (simp [*, errW_none, errW_some] <;> rfl), by repeat (first | (with_reducible first | exact HB.out | apply below_alloc | apply pw_below_drewN | apply below_drew1 | refine below_set ?_ GE247.out) | exact HB.out)⟩
      ·rw [if_neg c10] at H
       have c10b0 : (t252 == 0) = false := beq_eq_false_iff_ne.mpr c10
       have c10b1 : (t252 != 0) = true := bne_iff_ne.mpr c10
       have H' := Aside0.mk H
       clear H
       have p251 : 0 ≤ (x7_1 : Int) := oda
       have q251 : x7_1 < (y248.length : Int) := oda
       obtain ⟨ad251, e251, hx251_0⟩ := Kd.at_int (Kd.R_reads' HO_5.out).2.2 x7_1 p251 q251
       cases e251
       replace p251 := eq_true p251
       replace q251 := eq_true q251
       have hcz13_0 : wr.cell? ⟨gb247, 0, none⟩ = some (.int .i64 a0_0) := (blk_cell BK247.out 0).trans rfl
       have hcz13_1 : wr.cell? ⟨gb247, 1, none⟩ = some (.slice A0_1 l0_1.length c0_1) := (blk_cell BK247.out 1).trans rfl
       have hfz13_0 := blk_frozen BK247.out 0
       have hfz13_1 := blk_frozen BK247.out 1
       go_wp2_with (first | ((with_reducible refine gate_callee (f := 70) rfl ?_); refine goesA_ (some 13) rfl rfl Tryd.func70 (by kernel_rfl) rfl #[.agg #[.int .i64 a0_0, .slice A0_1 l0_1.length c0_1], .int .i64 (rd y248 x7_1)] rfl ?_; (with_reducible refine (impl_Hex_need.calls k1 a0_0 _ _ l0_1 (rd y248 x7_1) t252 _ ?side1 ?side2 A9.out).mono ?_); (case side1 => repeat (first | exact (Kd.C_below HR0_1.out HB.out) | (with_reducible refine Kd.C_alloc ?_ _) | (with_reducible refine Kd.C_drewN ?_ _) | (with_reducible refine Kd.C_drew ?_))); (case side2 => exact HC0_1.out); rintro e w14 ⟨rfl, hb⟩; refine ⟨_, rfl, ?_⟩; have n0_ := Aside0.mk (Kd.R_below (by (with_reducible repeat (first | apply Kd.R_alloc | apply Kd.R_drewN | apply Kd.R_drew)); exact HO_5.out) hb); have n1_ := Aside0.mk (blk_below (g := gb247) (o := .cells #[.int .i64 a0_0, .slice A0_1 l0_1.length c0_1] 28 (0, 0)) (by (with_reducible repeat (first | refine blk_drewN ?_ _ | refine blk_drew ?_ | refine blk_alloc ?_ _)); exact BK247.out) hb); have n2_ := Aside0.mk (below_step (by repeat (first | (with_reducible first | exact HB.out | apply below_alloc | apply pw_below_drewN | apply below_drew1 | refine below_set ?_ GE247.out) | exact HB.out)) hb); clear HO_5; clear BK247; clear HB; have HO_5 := n0_; have BK247 := n1_; have HB := n2_; clear n0_ n1_ n2_; (try clear hb); (try clear hb2); (try clear hk); (try clear hi)))
       go_roundg k1
       case measure => have := HK1.out; omega
       case rel => exact ⟨(wrap64 (x7_1 + 1)), (by first | rfl | (simp; done) | (simp [*]; done)), H', ⟨by have := HK1.out; omega⟩, ⟨by (with_reducible repeat (first | apply Kd.R_alloc | apply Kd.R_drewN | apply Kd.R_drew)); exact HO_5.out⟩, ⟨by (with_reducible repeat (first | refine blk_drewN ?_ _ | refine blk_drew ?_ | refine blk_alloc ?_ _)); exact BK247.out⟩, ⟨by repeat (first | (with_reducible first | exact HB.out | apply below_alloc | apply pw_below_drewN | apply below_drew1 | refine below_set ?_ GE247.out) | exact HB.out)⟩⟩
     ·rw [if_neg c8] at H
      exact absurd H (by simp)
    ·rw [if_neg c7] at H
     exact absurd H (by simp)
   ·rw [if_neg c6] at H
    have c6b0 : decide (x7_1 < (y248.length : Int)) = false := decide_eq_false c6
    clear c6
    obtain rfl := Option.some.inj H
    go_wp2
    go_ret
    exact ⟨by first | rfl | (simp [errW_none, errW_some] <;> rfl) | (simp [*, errW_none, errW_some] <;> rfl), by repeat (first | (with_reducible first | exact HB.out | apply below_alloc | apply pw_below_drewN | apply below_drew1 | refine below_set ?_ GE247.out) | exact HB.out)⟩
def Tryd.lays173_ren : Go.Shelf.Ren := ⟨fun | 173 => 81 | 246 => 85 | 283 => 88 | 284 => 89 | 285 => 90 | 286 => 91 | 129 => 95 | 317 => 94 | 318 => 96 | 319 => 97 | 320 => 98 | 337 => 99 | 338 => 100 | n => n, fun | 2 => 2 | 3 => 3 | 9 => 9 | 4 => 4 | 171 => 106 | 0 => 0 | 53 => 61 | 37 => 37 | 5 => 5 | 173 => 109 | 212 => 116 | 51 => 117 | 20 => 20 | 213 => 118 | 46 => 83 | 232 => 122 | 233 => 123 | n => n, fun | 17 => 0 | 18 => 2 | 19 => 3 | n => n⟩
theorem Tryd.lays173 : Go.Proofs.Lays.n173 Tryd.prog Tryd.lays173_ren := {
  mixed := by kernel_rfl
  f129 := Tryd.func95.trans (congrArg some (by kernel_rfl))
  f173 := Tryd.func81.trans (congrArg some (by kernel_rfl))
  f246 := Tryd.func85.trans (congrArg some (by kernel_rfl))
  f283 := Tryd.func88.trans (congrArg some (by kernel_rfl))
  f284 := Tryd.func89.trans (congrArg some (by kernel_rfl))
  f285 := Tryd.func90.trans (congrArg some (by kernel_rfl))
  f286 := Tryd.func91.trans (congrArg some (by kernel_rfl))
  f317 := Tryd.func94.trans (congrArg some (by kernel_rfl))
  f318 := Tryd.func96.trans (congrArg some (by kernel_rfl))
  f319 := Tryd.func97.trans (congrArg some (by kernel_rfl))
  f320 := Tryd.func98.trans (congrArg some (by kernel_rfl))
  f337 := Tryd.func99.trans (congrArg some (by kernel_rfl))
  f338 := Tryd.func100.trans (congrArg some (by kernel_rfl))
  t0 := Tryd.underlying0
  a0 := Tryd.isAgg0
  z0 := Tryd.sizeOf0
  v0 := Tryd.zeroValue0
  t2 := Tryd.underlying2
  a2 := Tryd.isAgg2
  z2 := Tryd.sizeOf2
  v2 := Tryd.zeroValue2
  t3 := Tryd.underlying3
  a3 := Tryd.isAgg3
  z3 := Tryd.sizeOf3
  v3 := Tryd.zeroValue3
  t4 := Tryd.underlying4
  a4 := Tryd.isAgg4
  z4 := Tryd.sizeOf4
  v4 := Tryd.zeroValue4
  t5 := Tryd.underlying5
  a5 := Tryd.isAgg5
  z5 := Tryd.sizeOf5
  v5 := Tryd.zeroValue5
  t9 := Tryd.underlying9
  a9 := Tryd.isAgg9
  z9 := Tryd.sizeOf9
  v9 := Tryd.zeroValue9
  t20 := Tryd.underlying20
  a20 := Tryd.isAgg20
  z20 := Tryd.sizeOf20
  v20 := Tryd.zeroValue20
  t37 := Tryd.underlying37
  a37 := Tryd.isAgg37
  z37 := Tryd.sizeOf37
  v37 := Tryd.zeroValue37
  t46 := Tryd.underlying83
  a46 := Tryd.isAgg83
  z46 := Tryd.sizeOf83
  v46 := Tryd.zeroValue83
  t51 := Tryd.underlying117
  a51 := Tryd.isAgg117
  z51 := Tryd.sizeOf117
  v51 := Tryd.zeroValue117
  t53 := Tryd.underlying61
  a53 := Tryd.isAgg61
  z53 := Tryd.sizeOf61
  v53 := Tryd.zeroValue61
  t171 := Tryd.underlying106
  a171 := Tryd.isAgg106
  z171 := Tryd.sizeOf106
  v171 := Tryd.zeroValue106
  t173 := Tryd.underlying109
  a173 := Tryd.isAgg109
  z173 := Tryd.sizeOf109
  v173 := Tryd.zeroValue109
  t212 := Tryd.underlying116
  a212 := Tryd.isAgg116
  z212 := Tryd.sizeOf116
  v212 := Tryd.zeroValue116
  t213 := Tryd.underlying118
  a213 := Tryd.isAgg118
  z213 := Tryd.sizeOf118
  t232 := Tryd.underlying122
  a232 := Tryd.isAgg122
  z232 := Tryd.sizeOf122
  v232 := Tryd.zeroValue122
  t233 := Tryd.underlying123
  a233 := Tryd.isAgg123
  z233 := Tryd.sizeOf123
  v233 := Tryd.zeroValue123
  g17 := by kernel_rfl
  g18 := by kernel_rfl
  g19 := by kernel_rfl }
open Go.RowKit Go.Sort Go.Lib in
theorem Tryd.strconv_FormatInt_10_small (i : Nat) (hi : i < 100) (w : World) :
    Calls Tryd.prog 81 #[.int .i64 i, .int .i64 10] w fun e w' => e = .returned (.string ⟨(Lib.decDigits i).toArray⟩) ∧ w' = w := Any.strconv_FormatInt_10_small Tryd.lays173 i hi w
/-! ### impl_decimal: function 74 -/
-- EXTERNAL: by hand
def impl_decimal.f (a0 : Int) : Option ByteArray := if 0 ≤ a0 ∧ a0 < 100 then some ⟨(Lib.decDigits a0.toNat).toArray⟩ else none
set_option maxHeartbeats 2000000 in
theorem impl_decimal.calls (a0 : Int) (r : ByteArray) (w : World) (h : impl_decimal.f a0 = some r) :
    Calls Tryd.prog 74 #[.int .i64 a0] w fun e w' => e = .returned (.string r) ∧ Drawn0 w w' := by
  unfold impl_decimal.f at h
  split at h
  case isFalse => cases h
  rename_i hb
  obtain rfl := Option.some.inj h
  obtain ⟨i, rfl⟩ : ∃ i : Nat, a0 = (i : Int) := ⟨a0.toNat, by omega⟩
  rw [Int.toNat_natCast]
  have HF := fun W => Tryd.strconv_FormatInt_10_small i (by omega) W
  clear h hb
  go_enter Tryd.func74, Tryd.ntmps74
  go_wp2_with (go_at_call 81; refine (HF _).mono ?_; rintro e w' ⟨rfl, rfl⟩)
  go_ret
  exact ⟨rfl, Drawn0.refl _⟩
def Tryd.lays156_ren : Go.Shelf.Ren := ⟨fun | 156 => 75 | 165 => 82 | 166 => 83 | 169 => 84 | 240 => 86 | 241 => 87 | 276 => 92 | 277 => 93 | n => n, fun | 31 => 85 | 9 => 9 | 3 => 3 | 4 => 4 | 0 => 0 | 20 => 20 | 72 => 95 | 76 => 99 | 70 => 93 | 37 => 37 | 75 => 98 | 127 => 104 | 164 => 111 | 5 => 5 | 80 => 101 | n => n, fun | n => n⟩
theorem Tryd.lays156 : Go.Proofs.Lays.n156 Tryd.prog Tryd.lays156_ren := {
  mixed := by kernel_rfl
  f156 := Tryd.func75.trans (congrArg some (by kernel_rfl))
  f165 := Tryd.func82.trans (congrArg some (by kernel_rfl))
  f166 := Tryd.func83.trans (congrArg some (by kernel_rfl))
  f169 := Tryd.func84.trans (congrArg some (by kernel_rfl))
  f240 := Tryd.func86.trans (congrArg some (by kernel_rfl))
  f241 := Tryd.func87.trans (congrArg some (by kernel_rfl))
  f276 := Tryd.func92.trans (congrArg some (by kernel_rfl))
  f277 := Tryd.func93.trans (congrArg some (by kernel_rfl))
  t0 := Tryd.underlying0
  a0 := Tryd.isAgg0
  z0 := Tryd.sizeOf0
  v0 := Tryd.zeroValue0
  t3 := Tryd.underlying3
  a3 := Tryd.isAgg3
  z3 := Tryd.sizeOf3
  v3 := Tryd.zeroValue3
  t4 := Tryd.underlying4
  a4 := Tryd.isAgg4
  z4 := Tryd.sizeOf4
  v4 := Tryd.zeroValue4
  t9 := Tryd.underlying9
  a9 := Tryd.isAgg9
  z9 := Tryd.sizeOf9
  v9 := Tryd.zeroValue9
  t20 := Tryd.underlying20
  a20 := Tryd.isAgg20
  z20 := Tryd.sizeOf20
  v20 := Tryd.zeroValue20
  t31 := Tryd.underlying85
  a31 := Tryd.isAgg85
  z31 := Tryd.sizeOf85
  v31 := Tryd.zeroValue85
  t37 := Tryd.underlying37
  a37 := Tryd.isAgg37
  z37 := Tryd.sizeOf37
  v37 := Tryd.zeroValue37
  t70 := Tryd.underlying93
  a70 := Tryd.isAgg93
  z70 := Tryd.sizeOf93
  v70 := Tryd.zeroValue93
  t72 := Tryd.underlying95
  a72 := Tryd.isAgg95
  z72 := Tryd.sizeOf95
  v72 := Tryd.zeroValue95
  t75 := Tryd.underlying98
  a75 := Tryd.isAgg98
  z75 := Tryd.sizeOf98
  v75 := Tryd.zeroValue98
  t76 := Tryd.underlying99
  a76 := Tryd.isAgg99
  z76 := Tryd.sizeOf99
  v76 := Tryd.zeroValue99
  t127 := Tryd.underlying104
  a127 := Tryd.isAgg104
  z127 := Tryd.sizeOf104
  v127 := Tryd.zeroValue104
  t164 := Tryd.underlying111
  a164 := Tryd.isAgg111
  z164 := Tryd.sizeOf111
  v164 := Tryd.zeroValue111 }
theorem Tryd.Builder_Extra_156 : Builder.Extra Tryd.prog Tryd.lays156_ren := {
  sizeBuilder := by kernel_rfl
  liesBuilder := by kernel_rfl
  t5 := Tryd.underlying5
  a5 := Tryd.isAgg5
  z5 := Tryd.sizeOf5
  v5 := Tryd.zeroValue5
  infoByte := by kernel_rfl
  cellsByte := by kernel_rfl
  sizeByte := by kernel_rfl
  neB5 := by decide }
theorem Tryd.strings_Join (bk o c : Nat) (xs : List ByteArray) (sep : ByteArray) (w : World) (hcells : ∀ (j : Nat) x, xs[j]? = some x → w.cell? ⟨bk, o + j, none⟩ = some (.string x)) (hbk : bk < w.heap.size) (hN : xs.length ≤ 140737488355328) (hcap : xs.length ≤ c) (hlen : (Lib.join (xs.map (·.data.toList)) sep.data.toList).length ≤ 140737488355328) :
    Calls Tryd.prog 75 #[.slice (some ⟨bk, o, none⟩) xs.length c, .string sep] w fun e w' => e = .returned (.string ⟨(Lib.join (xs.map (·.data.toList)) sep.data.toList).toArray⟩) ∧ Below w.heap.size w w' := Any.strings_Join Tryd.lays156 Tryd.Builder_Extra_156 bk o c xs sep w hcells hbk hN hcap hlen
/-! ### impl_joined: function 59 -/
-- EXTERNAL: by hand
-- impl_decimal wrap_next rd_get
def decW (x : Int) : ByteArray := ⟨(Lib.decDigits x.toNat).toArray⟩
def joinW (l : List Int) (s : ByteArray) : ByteArray := ⟨(Lib.join ((l.map decW).map (·.data.toList)) s.data.toList).toArray⟩
def impl_joined.f (l : List Int) (s : ByteArray) : Option ByteArray := if 1 ≤ l.length ∧ l.length ≤ 100 ∧ (∀ x ∈ l, 0 ≤ x ∧ x < 100) ∧ (joinW l s).size ≤ 140737488355328 then some (joinW l s) else none
set_option maxHeartbeats 4000000 in
set_option maxRecDepth 100000 in
theorem impl_joined.calls (A : Option Addr) (c : Nat) (l : List Int) (s : ByteArray) (r : ByteArray) (w : World) (hr0 : Kd.C (Kd.int .i64) w A l.length l) (hc0 : l.length ≤ c) (h : impl_joined.f l s = some r) :
    Calls Tryd.prog 59 #[.slice A l.length c, .string s] w fun e w' => e = .returned (.string r) ∧ Below w.heap.size w w' := by
  unfold impl_joined.f at h
  split at h
  case isFalse => cases h
  rename_i hh
  obtain rfl := Option.some.inj h
  obtain ⟨h1, h100, hx, hsz⟩ := hh
  have HR := Aside0.mk hr0
  have HH := Aside0.mk (And.intro h1 h100)
  have HX := Aside0.mk hx
  have HJl0 := Aside0.mk (show (Lib.join ((l.map decW).map (·.data.toList)) s.data.toList).length ≤ 140737488355328 from hsz)
  have HB := Aside0.mk (Below.refl w.heap.size w)
  clear hr0 h1 h100 hx hsz h
  go_enter Tryd.func59, Tryd.ntmps59
  go_wp2_with (first | ((with_reducible refine gate_dst (N := 8) rfl ?_); refine Kd.R_lit Kd.string _ 9 ?hg (N := 8) ?hd (xs := ([] : List ByteArray)) (inner := []) (ok := fun _ => True) (okp := fun _ => True) ?hr ?hp (fun _ hk => hk) trivial (Below.refl _ _) (Nat.le_refl _) (by simp) ?_; (case hd => rfl); (case hg => rfl); (case hr => first | (go_simp; done) | (go_simp; rfl)); (case hp => exact Reps.none _ _); intro v8 w4 ho hb hg_ hnew_; clear hg_ hnew_; have HT := Aside0.mk (Kd.R_lower ho (below_size HB.out)); clear ho; have n_ := Aside0.mk (below_step HB.out hb); clear HB hb; have HB := n_; clear n_))
  go_loopg [5, 11] l.length (fun gg s5 s11 wr => ∃ i : Nat, i ≤ l.length ∧ l.length - i ≤ gg ∧ s11 = .int .i64 i ∧ Aside0 (Kd.R Kd.string 9 wr w.heap.size (fun _ => True) s5 ((l.take i).map decW)) ∧ Aside0 (Below w.heap.size w wr))
  case atStart => exact ⟨0, Nat.zero_le _, Nat.le_refl _, rfl, HT, HB⟩
  case round =>
    clear HT HB
    obtain ⟨i, hi, hgi, rfl, HT, HB⟩ := hrel
    by_cases hlt : i < l.length
    · have q1 := decide_eq_true (show (i : Int) < (l.length : Int) by omega)
      have q2 := decide_eq_true hlt
      have q3 := eq_true (show (i : Int) < (l.length : Int) by omega)
      have q4 := eq_true (show (0 : Int) ≤ (i : Int) by omega)
      have q5 := eq_true hlt
      obtain ⟨adx, rfl, hxx⟩ := Kd.at_int (Kd.C_below HR.out HB.out) (i : Int) (by omega) (by omega)
      rw [Int.toNat_natCast, rd_get l i hlt] at hxx
      have hxb := HX.out l[i] (List.getElem_mem hlt)
      have HSucc := Aside0.mk (show (l.take (i + 1)).map decW = (l.take i).map decW ++ [decW l[i]] by rw [List.take_succ_eq_append_getElem hlt, List.map_append]; rfl)
      generalize l[i] = x at hxx hxb HSucc
      have HDV := Aside0.mk (show impl_decimal.f x = some (decW x) by unfold impl_decimal.f; rw [if_pos hxb]; rfl)
      have HTl := Aside0.mk (show ((l.take i).map decW).length ≤ 100 by rw [List.length_map, List.length_take]; have := HH.out; omega)
      have HJm := Aside0.mk (show l.length - (i + 1) < gk by omega)
      have HJr := Aside0.mk (show i + 1 ≤ l.length by omega)
      have HJs := Aside0.mk (show wrap64 ((i : Int) + 1) = ((i + 1 : Nat) : Int) from wrap_next hlt (by have := HH.out; omega))
      obtain ⟨ts, hts⟩ : ∃ ts, (l.take i).map decW = ts := ⟨_, rfl⟩
      rw [hts] at HT HTl HSucc
      obtain ⟨s5, hs5⟩ : ∃ s, u5 = s := ⟨_, rfl⟩
      rw [hs5] at HT ⊢
      clear hi hgi hlt hts hs5 hxb
      go_wp2_with (first | (go_at_call 74; refine (impl_decimal.calls x (decW x) _ HDV.out).mono ?_; rintro e w_ ⟨rfl, hd⟩; have hb := hd.below; have n1_ := Aside0.mk (Kd.R_below HT.out hb); have n2_ := Aside0.mk (below_step HB.out hb); clear hd hb HT HB; have HT := n1_; have HB := n2_; clear n1_ n2_) | ((with_reducible refine gate_builtin (b := .append) (xs := #[.tmp 15, .tmp 18]) rfl ?_); at_builtin; refine Kd.R_append Kd.string (w0 := w) w.heap.size rfl (.tmp 15) (.tmp 18) 85 9 (.string ⟨#[]⟩) 16 rfl Tryd.underlying85 (by kernel_rfl) rfl (by decide) (by omega) s5 ts (decW x) [.string (decW x)] (fun _ => True) (fun _ => False) rfl rfl ?aP (fun _ hk => hk.elim) ?aF ?aO ?aB ?aS ?aL ?_; (case aP => exact rfl); (case aF => exact (fun _ _ => trivial)); (case aO => exact HT.out); (case aB => exact HB.out); (case aS => exact below_size HB.out); (case aL => have := HTl.out; omega); intro v19 w9 ho hb hg hat; clear HT HB; have HT := Aside0.mk ho; have HB := Aside0.mk hb; clear ho hb hg hat))
      go_roundg (l.length - (i + 1))
      case measure => exact HJm.out
      case rel => exact ⟨i + 1, HJr.out, Nat.le_refl _, (by first | rfl | exact congrArg (Value.int .i64) HJs.out), ⟨by rw [HSucc.out]; exact HT.out⟩, HB⟩
    · have hie : i = l.length := by omega
      subst hie
      have q1 := decide_eq_false (show ¬ (l.length : Int) < (l.length : Int) by omega)
      rw [List.take_length] at HT
      have hln : (l.map decW).length = l.length := List.length_map ..
      obtain ⟨gt, ct, et, _, hgt_, _⟩ := Kd.R_form HT.out (by rw [hln]; exact HH.out.1)
      subst et
      have HJl := HJl0
      have HTx2 := Aside0.mk (show (⟨(Lib.join ((l.map decW).map (·.data.toList)) s.data.toList).toArray⟩ : ByteArray) = joinW l s from rfl)
      obtain ⟨ts, hts⟩ : ∃ ts, l.map decW = ts := ⟨_, rfl⟩
      rw [hts] at HT hln HJl HTx2 ⊢
      have HTl2 := Aside0.mk (show ts.length ≤ 140737488355328 by have := HH.out; omega)
      have HTc := Aside0.mk (Kd.R_reads' HT.out).2.1
      have hcl_ : ∀ (j : Nat) x, ts[j]? = some x → wr.cell? ⟨gt, 0 + j, none⟩ = some (.string x) := fun j x hjx => by
        obtain ⟨hj, he⟩ := List.getElem?_eq_some_iff.1 hjx
        obtain ⟨ad, ea, hc⟩ := Kd.at_string (Kd.R_reads' HT.out).2.2 (j : Int) (by omega) (by omega)
        injection ea with ea
        subst ea
        rw [Int.toNat_natCast, add_at] at hc
        rw [hc]
        unfold rdOf
        rw [Int.toNat_natCast, List.getD_eq_getElem?_getD, hjx, Option.getD_some]
      have HCl := Aside0.mk hcl_
      have HGt := Aside0.mk hgt_
      clear hi hgi hlt hts hln hcl_ hgt_
      go_wp2_with (first | (go_at_call 75; refine (Tryd.strings_Join gt 0 ct ts s _ HCl.out HGt.out HTl2.out HTc.out HJl.out).mono ?_; rintro e wj ⟨rfl, hb⟩; have n_ := Aside0.mk (below_step HB.out hb); clear HB hb; have HB := n_; clear n_))
      go_ret
      exact ⟨by rw [← HTx2.out]; rfl, HB.out⟩
-- The empty cells of a board. chosenTo
theorem chosen_pair (p : Int → Bool) : ∀ n : Nat, (chosenTo p n).Pairwise (· < ·) ∧ ∀ x ∈ chosenTo p n, 0 ≤ x ∧ x < (n : Int) ∧ p x = true
  | 0 => ⟨List.Pairwise.nil, fun x hx => absurd hx (by simp [chosenTo])⟩
  | n + 1 => by
    obtain ⟨h1, h2⟩ := chosen_pair p n
    have hs : chosenTo p (n + 1) = if p n then chosenTo p n ++ [(n : Int)] else chosenTo p n := rfl
    rw [hs]
    by_cases hp : p n = true
    · rw [if_pos hp]
      refine ⟨List.pairwise_append.2 ⟨h1, List.pairwise_singleton _ _, fun a ha b hb => ?_⟩, fun x hx => ?_⟩
      · rw [List.mem_singleton] at hb
        subst hb
        exact (h2 a ha).2.1
      · rcases List.mem_append.1 hx with hx | hx
        · obtain ⟨a, b, c⟩ := h2 x hx
          exact ⟨a, by omega, c⟩
        · rw [List.mem_singleton] at hx
          subst hx
          exact ⟨by omega, by omega, hp⟩
    · rw [if_neg hp]
      exact ⟨h1, fun x hx => by obtain ⟨a, b, c⟩ := h2 x hx; exact ⟨a, by omega, c⟩⟩
/-- The empty cells. -/
def emptyL (l : List Int) : List Int := chosenTo (fun c => rd l c == 0) l.length

-- needs: 44 LibHexIs (boards, in plain words)
theorem chosenTo_count (l : List Int) (v : Int) : ∀ k, k ≤ l.length → (chosenTo (fun c => rd l c == v) k).length = (l.take k).count v
  | 0, _ => by simp [chosenTo]
  | k + 1, h => by
    have ih := chosenTo_count l v k (by omega)
    rw [List.take_succ_eq_append_getElem (by omega), List.count_append, ← ih]
    have hs : chosenTo (fun c => rd l c == v) (k + 1) = if (rd l (k : Int) == v) = true then chosenTo (fun c => rd l c == v) k ++ [(k : Int)] else chosenTo (fun c => rd l c == v) k := rfl
    rw [hs, rd_get l k (by omega)]
    by_cases e : l[k] = v
    · simp [e]
    · simp [e]
theorem chosenTo_all (l : List Int) (v : Int) : (chosenTo (fun c => rd l c == v) l.length).length = l.count v := by
  rw [chosenTo_count l v _ (Nat.le_refl _), List.take_length]
-- The reference's count of a board. isHexV_cells hex_small (for 46)
def moverV (l : List Int) : Int := if l.count 1 = l.count 2 then 1 else if l.count 1 = l.count 2 + 1 then 2 else 0
theorem l06Mover_l0 (p : Int) (l : List Int) (hl : l.length ≤ 1000000) (hx : ∀ x ∈ l, x = 0 ∨ x = 1 ∨ x = 2) : ∀ (d i : Nat), i + d = l.length →
    Ev (fun k => spec_l06Mover.l0 k [((l.take i).count 0 : Int), ((l.take i).count 1 : Int), ((l.take i).count 2 : Int)] i p l) (moverV l, (l.count 0 : Int)) := by
  intro d
  induction d with
  | zero =>
    intro i hi
    have e : l.take i = l := List.take_of_length_le (by omega)
    rw [e]
    have b1 := List.count_le_length (a := (1 : Int)) (l := l)
    have b2 := List.count_le_length (a := (2 : Int)) (l := l)
    refine Ev.step (f := fun _ => some _) (fun k => ?_) (Ev.now _)
    simp only [spec_l06Mover.l0]
    rw [if_neg (by omega), if_pos (by simp), if_pos (by simp)]
    have r0 : rd [(l.count 0 : Int), (l.count 1 : Int), (l.count 2 : Int)] 0 = (l.count 0 : Int) := rfl
    have r1 : rd [(l.count 0 : Int), (l.count 1 : Int), (l.count 2 : Int)] 1 = (l.count 1 : Int) := rfl
    have r2 : rd [(l.count 0 : Int), (l.count 1 : Int), (l.count 2 : Int)] 2 = (l.count 2 : Int) := rfl
    have ew : wrap64 ((l.count 1 : Int) - (l.count 2 : Int)) = (l.count 1 : Int) - (l.count 2 : Int) := by unfold wrap64; omega
    rw [r0, r1, r2, ew]
    unfold moverV
    by_cases h1 : l.count 1 = l.count 2
    · rw [if_pos h1, if_pos (by omega), if_pos (by simp)]
    · rw [if_neg h1, if_neg (by omega)]
      by_cases h2 : l.count 1 = l.count 2 + 1
      · rw [if_pos h2, if_pos (by omega), if_pos (by simp)]
      · rw [if_neg h2, if_neg (by omega), if_pos (by simp)]
  | succ d ih =>
    intro i hi
    have hlt : i < l.length := by omega
    have ih1 := ih (i + 1) (by omega)
    refine Ev.step (fun k => ?_) ih1
    have b (v : Int) : (l.take i).count v ≤ l.length := Nat.le_trans List.count_le_length (by simp; omega)
    have b0 := b 0; have b1 := b 1; have b2 := b 2
    simp only [spec_l06Mover.l0]
    rw [if_pos (by omega), if_pos (by omega), rd_get l i hlt, wrap_next hlt (by omega)]
    rw [List.take_succ_eq_append_getElem hlt, List.count_append, List.count_append, List.count_append]
    have hr0 (a b c : Int) : rd [a, b, c] 0 = a := rfl
    have hr1 (a b c : Int) : rd [a, b, c] 1 = b := rfl
    have hr2 (a b c : Int) : rd [a, b, c] 2 = c := rfl
    have ew (a : Nat) (h : a ≤ l.length) : wrap64 ((a : Int) + 1) = ((a + 1 : Nat) : Int) := by unfold wrap64; omega
    rcases hx l[i] (List.getElem_mem hlt) with e | e | e
    · rw [e, if_pos (by omega), if_pos (by simp), hr0, ew _ b0]
      simp
    · rw [e, if_pos (by omega), if_pos (by simp), hr1, ew _ b1]
      simp
    · rw [e, if_pos (by omega), if_pos (by simp), hr2, ew _ b2]
      simp
theorem l06Mover_ev {p : Int} {l : List Int} (h : isHexV p l = true) : Ev (fun k => spec_l06Mover.f k p l) (moverV l, (l.count 0 : Int)) := by
  have := l06Mover_l0 p l (by have := hex_small h; omega) (isHexV_cells h).2.2.2 l.length 0 (by omega)
  exact this
theorem cells_some (p : Int) (l : List Int) (v : Int) (h : l.length ≤ 17592186044416) : impl_Hex_cells.f p l v = some (chosenTo (fun c => rd l c == v) l.length) := by
  unfold impl_Hex_cells.f; rw [if_pos h]
theorem mover_some {p : Int} {l : List Int} (h : isHexV p l = true) : impl_Hex_mover.f p l = some (1 + ((l.count 1 : Int) - l.count 2), decide (l.count 1 = l.count 2 ∨ l.count 1 = l.count 2 + 1)) := by
  have hl := hex_small h
  have b1 := List.count_le_length (a := (1 : Int)) (l := l)
  have b2 := List.count_le_length (a := (2 : Int)) (l := l)
  unfold impl_Hex_mover.f
  rw [cells_some p l 1 (by omega), cells_some p l 2 (by omega), Option.bind_some, Option.bind_some, chosenTo_all, chosenTo_all]
  have ew : wrap64 ((l.count 1 : Int) - (l.count 2 : Int)) = (l.count 1 : Int) - (l.count 2 : Int) := by unfold wrap64; omega
  have ew2 : wrap64 (1 + ((l.count 1 : Int) - (l.count 2 : Int))) = 1 + ((l.count 1 : Int) - (l.count 2 : Int)) := by unfold wrap64; omega
  rw [ew, ew2]
  by_cases h1 : l.count 1 = l.count 2
  · rw [if_pos (by omega), decide_eq_true (.inl h1)]
  · rw [if_neg (by omega)]
    congr 2
    rw [Bool.eq_iff_iff]
    simp only [beq_iff_eq, decide_eq_true_eq]
    omega
theorem implHexMover (p : Int) (l : List Int) : impl_HexMover.f p l = some (if isHexV p l = true then (if moverV l = 0 then (0, 5) else (moverV l, 0)) else (0, 1)) := by
  unfold impl_HexMover.f impl_IsHex.f
  rw [Option.bind_some]
  by_cases h : isHexV p l = true
  · rw [if_pos h, if_pos h, mover_some h, Option.bind_some]
    unfold moverV
    by_cases h1 : l.count 1 = l.count 2
    · simp [h1]
    · by_cases h2 : l.count 1 = l.count 2 + 1
      · simp [h2]; omega
      · simp [h1, h2]
  · rw [if_neg h, if_neg h]
-- needs: maps that keep what is known (memo)
/-- What a map keeps is so. -/
def Memo (P : Program) (k : TypeId) (F : Value → Int → Prop) (D : DataW Unit) : Prop :=
  ∀ key kl c, keyOf P k key = some kl → Go.Maps.has D kl = true → D.atKey kl (.lit (.int .i64 0)) = .lit (.int .i64 c) → F key c
theorem Memo.empty {P : Program} {k : TypeId} {F : Value → Int → Prop} : Memo P k F (.map []) := fun _ _ _ _ h => by simp [Go.Maps.has] at h
theorem Memo.put {P : Program} {k : TypeId} {F : Value → Int → Prop} {D : DataW Unit} (K : Go.Maps.Keyed P k) (hm : Go.Maps.IsMap D) (h : Memo P k F D) {key : Value} {kl : Lit} {c : Int} (hk : keyOf P k key = some kl) (hF : F key c) :
    Memo P k F (D.put kl (.lit (.int .i64 c))) := by
  intro key' kl' c' hk' hh ha
  by_cases e : kl' = kl
  · subst e
    have : key' = key := K.inj hk' hk
    subst this
    rw [Go.Maps.atKey_put_same hm (K.key hk)] at ha
    injection ha with ha
    injection ha with _ ha
    exact ha ▸ hF
  · rw [Go.Maps.has_put_other e] at hh
    rw [Go.Maps.atKey_put_other e] at ha
    exact h key' kl' c' hk' hh ha
/-- Block gm is a map of at most N entries that keeps what is so. -/
def HasMemo (P : Program) (k e : TypeId) (F : Value → Int → Prop) (gm N : Nat) (W : World) : Prop := ∃ D : DataW Unit, W.ownsMap P k (plainElem P e) gm N D ∧ Memo P k F D
theorem HasMemo.mono {P : Program} {k e : TypeId} {F : Value → Int → Prop} {gm N N' : Nat} {W : World} (h : HasMemo P k e F gm N W) (hN : N ≤ N') : HasMemo P k e F gm N' W := by
  obtain ⟨D, h1, h2⟩ := h
  exact ⟨D, h1.mono hN, h2⟩
theorem HasMemo.below {P : Program} {k e : TypeId} {F : Value → Int → Prop} {gm N : Nat} {W W' : World} (h : HasMemo P k e F gm N W) (hb : Below W.heap.size W W') : HasMemo P k e F gm N W' := by
  obtain ⟨D, h1, h2⟩ := h
  exact ⟨D, h1.kept (grown_of_below hb none) (by simp), h2⟩
theorem HasMemo.drew {P : Program} {k e : TypeId} {F : Value → Int → Prop} {gm N : Nat} {W : World} (h : HasMemo P k e F gm N W) : HasMemo P k e F gm N W.drew := by
  obtain ⟨D, h1, h2⟩ := h
  exact ⟨D, h1.drew, h2⟩
theorem HasMemo.lt {P : Program} {k e : TypeId} {F : Value → Int → Prop} {gm N : Nat} {W : World} (h : HasMemo P k e F gm N W) : gm < W.heap.size := by
  obtain ⟨D, h1, _⟩ := h
  exact h1.lt
theorem grown_after_below {w W W2 : World} {g : Nat} (hb : Below w.heap.size w W) (h : W.grownBy W2 (some g)) : w.grownBy W2 (some g) := (grown_of_below hb (some g)).trans h
theorem blk_grownB {W W2 : World} {g gm : Nat} {o : Obj} (h : W.heap[g]? = some o) (hg : W.grownBy W2 (some gm)) (hne : g ≠ gm) : W2.heap[g]? = some o := blk_grown h hg (fun e => hne (by injection e))
section
variable {P : Program} {ops : Array Oper} {S : World → Prop} {ds : List Nat} {md : Region.Mode} {Q : Exit → Act → World → Prop}
/-- A call of a function value in a region of open order. -/
theorem goesF_ {oi : Oper} {N : Option Tmp} {a : Act} {w : World} {K : Act → World → Prop} {g : FuncId} {x : Operand} {lb : Array Value} {as_ : Array Operand} {ts : Array TypeId} (eg : ∀ args w, (callFunc g args).run P w = .ok (.enter g args) w) (args : Array Value)
    (hw : Region.wanted oi (yielded ops a.tmps) = true) (hN : oi.dst = N) (hop : oi.op = .call { callee := .value x, args := as_, argTypes := ts }) (hx : a.eval x = .func (.func g) #[] lb) (hargs : as_.map a.eval = args)
    (h : Calls P g (args ++ lb) w fun e w' => ∃ v, e = .returned v ∧ K (a.put N v) w') : if Region.wanted oi (yielded ops a.tmps) = true then Oper.wp P oi a w K Q else K (a.put N undef) w := by
  refine call_ g (args ++ lb) hw hN ?_ h
  unfold execOp
  simp [hop, resolve, Deferred.ofValue, invoke, hx, hargs, eg]
/-- A map that is made. -/
theorem made_event {rest : List Oper} {o : Oper} {a : Act} {W : World} (hgd : o.guard = none) {N : Tmp} (_hd : o.dst = some N) (k : TypeId) (R : Value → Option (DataW Unit × List MemPlace))
    (hrun : (execOp a.eval o).run P W = .ok (.value (.map (some W.heap.size))) (W.alloc (.map #[] 0)))
    (h : ∀ g, g = W.heap.size → ∀ w1, w1.ownsMap P k R g 0 (.map []) → Below W.heap.size W w1 → wpList P ops Q rest (a.put o.dst (.map (some g))) w1) : wpList P ops Q (o :: rest) a W :=
  Kd.event_run hgd hrun (h _ rfl _ (World.ownsMap_made _ _ _ _) (below_alloc (Below.refl _ _) _))
theorem run_store_map_ {P : Program} {w : World} {a : Addr} {m : Mode} (g : Option Nat) : (store a (.map g) m).run P w = stored P w a (.map g) m := run_store P w a _ m rfl
end
/-! ### impl_hexWins: function 36 -/
-- EXTERNAL: by hand
-- impl_joined impl_decimal impl_Hex_mover impl_Hex_cells impl_Hex_joiner impl_Hex_with slices_Clone_int64_int64
-- mover_some emptyL chosen_pair isHexV_cells hex_small moverV Memo HasMemo goesF_ made_event run_store_map_ run_store_func wrap_next rd_get joinW
theorem strKeyed : Go.Maps.Keyed Tryd.prog 9 := Go.Maps.string_keyed Tryd.underlying9
theorem strKey (s : ByteArray) (h : s.size ≤ maxLen) : ∃ kl, keyOf Tryd.prog 9 (.string s) = some kl := by
  unfold keyOf
  simp [Tryd.underlying9, mapKey, h]
/-- What the map keeps. -/
def OkB (P : List Int → Prop) (l : List Int) : Prop := moverV l ≠ 0 ∧ P l
def HWF (n : Nat) (P : List Int → Prop) (Wv : List Int → Int) (v : Value) (c : Int) : Prop := ∀ l, isHexV (n : Int) l = true → OkB P l → v = .string (joinW l ⟨#[]⟩) → c = Wv l
def hexCnt : Nat → Nat
  | 0 => 1
  | d + 1 => (d + 1) * hexCnt d + 1
theorem hexCnt_pos (d : Nat) : 1 ≤ hexCnt d := by cases d <;> simp [hexCnt]
/-- What the finder reckons. -/
structure HexVal (n : Nat) (P : List Int → Prop) (J Wv : List Int → Int) : Prop where
  join : ∀ l, isHexV (n : Int) l = true → OkB P l → emptyL l = [] → ∃ K, impl_Hex_joiner.f K n l = some (J l)
  small : ∀ l, isHexV (n : Int) l = true → OkB P l → 0 ≤ Wv l ∧ Wv l ≤ 2
  full : ∀ l, isHexV (n : Int) l = true → OkB P l → emptyL l = [] → Wv l = J l
  step : ∀ l, isHexV (n : Int) l = true → OkB P l → emptyL l ≠ [] → Wv l = if (emptyL l).any (fun x => Wv (l.set x.toNat (moverV l)) == moverV l) = true then moverV l else 3 - moverV l
  key : ∀ l l', isHexV (n : Int) l = true → isHexV (n : Int) l' = true → joinW l ⟨#[]⟩ = joinW l' ⟨#[]⟩ → l = l'
  joined : ∀ l, isHexV (n : Int) l = true → impl_joined.f l ⟨#[]⟩ = some (joinW l ⟨#[]⟩) ∧ (joinW l ⟨#[]⟩).size ≤ maxLen
  child : ∀ l x, isHexV (n : Int) l = true → OkB P l → x ∈ emptyL l → isHexV (n : Int) (l.set x.toNat (moverV l)) = true ∧ OkB P (l.set x.toNat (moverV l)) ∧ (emptyL (l.set x.toNat (moverV l))).length + 1 = (emptyL l).length
structure HWEnv (w0 : World) (gK gF gm n N : Nat) (P : List Int → Prop) (Wv : List Int → Int) (W : World) : Prop where
  below : Below w0.heap.size w0 W
  hk : W.heap[gK]? = some (.cells #[.map (some gm)] 69 (0, 0))
  hf : W.heap[gF]? = some (.cells #[.func (.func 58) #[] #[.pointer (some ⟨gK, 0, none⟩), .pointer (some ⟨gF, 0, none⟩)]] 48 (0, 0))
  memo : HasMemo Tryd.prog 9 2 (HWF n P Wv) gm N W
  ne : gm ≠ gK ∧ gm ≠ gF
  base : w0.heap.size ≤ gm
theorem HWEnv.step {w0 : World} {gK gF gm n N : Nat} {P : List Int → Prop} {Wv : List Int → Int} {W W' : World} (h : HWEnv w0 gK gF gm n N P Wv W) (hb : Below W.heap.size W W') : HWEnv w0 gK gF gm n N P Wv W' :=
  ⟨below_step h.below hb, blk_below h.hk hb, blk_below h.hf hb, h.memo.below hb, h.ne, h.base⟩
theorem HWEnv.drew {w0 : World} {gK gF gm n N : Nat} {P : List Int → Prop} {Wv : List Int → Int} {W : World} (h : HWEnv w0 gK gF gm n N P Wv W) : HWEnv w0 gK gF gm n N P Wv W.drew :=
  ⟨below_drew1 h.below, blk_drew h.hk, blk_drew h.hf, h.memo.drew, h.ne, h.base⟩
theorem HWEnv.mono {w0 : World} {gK gF gm n N N' : Nat} {P : List Int → Prop} {Wv : List Int → Int} {W : World} (h : HWEnv w0 gK gF gm n N P Wv W) (hN : N ≤ N') : HWEnv w0 gK gF gm n N' P Wv W :=
  ⟨h.below, h.hk, h.hf, h.memo.mono hN, h.ne, h.base⟩
theorem hw_env {w0 : World} {gK gF gm n N N' m : Nat} {P : List Int → Prop} {Wv : List Int → Int} {W W' : World} {D : DataW Unit} (h : HWEnv w0 gK gF gm n N P Wv W) (ho : W'.ownsMap Tryd.prog 9 (plainElem Tryd.prog 2) gm m D) (hm : Memo Tryd.prog 9 (HWF n P Wv) D) (hg : W.grownBy W' (some gm)) (hn : m ≤ N') : HWEnv w0 gK gF gm n N' P Wv W' :=
  ⟨h.below.grown hg h.below.size (fun k hk => by cases hk; exact h.base), blk_grownB h.hk hg h.ne.1.symm, blk_grownB h.hf hg h.ne.2.symm, ⟨D, ho.mono hn, hm⟩, h.ne, h.base⟩
/-- A list that is read outlives the map's turns. -/
theorem C_memo {W W' : World} {A : Option Addr} {l : List Int} {gm : Nat} (h : Kd.C (Kd.int .i64) W A l.length l) (hm : ∃ a b, W.heap[gm]? = some (.map a b)) (hg : W.grownBy W' (some gm)) : Kd.C (Kd.int .i64) W' A l.length l := by
  have hr := Kd.reads_of_C (enc := Value.int .i64) (d := (0 : Int)) (h1 := fun _ => rfl) h
  refine Kd.C_of_reads (enc := Value.int .i64) (d := (0 : Int)) (h1 := fun _ => rfl) ⟨hr.1, hr.2.1, fun hn => ?_⟩
  obtain ⟨ad, e, hc⟩ := hr.2.2 hn
  refine ⟨ad, e, fun j hj => hg.cell (hc j hj) (fun e2 => ?_)⟩
  injection e2 with e2
  obtain ⟨a, b, hm⟩ := hm
  have := hc j hj
  unfold World.cell? at this
  rw [e2, hm] at this
  cases this
theorem HWEnv.map {w0 : World} {gK gF gm n N : Nat} {P : List Int → Prop} {Wv : List Int → Int} {W : World} (h : HWEnv w0 gK gF gm n N P Wv W) : ∃ a b, W.heap[gm]? = some (.map a b) := by
  obtain ⟨D, ⟨es, cl, hb, _⟩, _⟩ := h.memo
  exact ⟨es, cl, hb⟩
theorem eg_hfind : ∀ args w, (callFunc 58 args).run Tryd.prog w = .ok (.enter 58 args) w := enters_of Tryd.func58 (by kernel_rfl) rfl
/-- What the finder does, for at most d empty cells. -/
def HFind (w0 : World) (gK gF gm n : Nat) (P : List Int → Prop) (Wv : List Int → Int) (d : Nat) : Prop :=
  ∀ (l : List Int) (A : Option Addr) (c N : Nat) (W : World), isHexV (n : Int) l = true → OkB P l → (emptyL l).length ≤ d → Kd.C (Kd.int .i64) W A l.length l → l.length ≤ c → HWEnv w0 gK gF gm n N P Wv W → N + hexCnt d < maxLen →
    Calls Tryd.prog 58 #[.agg #[.int .i64 n, .slice A l.length c], .pointer (some ⟨gK, 0, none⟩), .pointer (some ⟨gF, 0, none⟩)] W fun e W' => e = .returned (.int .i64 (Wv l)) ∧ HWEnv w0 gK gF gm n (N + hexCnt d) P Wv W' ∧ W.grownBy W' (some gm)
theorem hcnt_step {d i f : Nat} (hi : i < f) (hf : f ≤ d) : i * hexCnt (d - 1) + hexCnt (d - 1) ≤ hexCnt d := by
  cases d with
  | zero => omega
  | succ d =>
    have : (i + 1) * hexCnt d ≤ (d + 1) * hexCnt d := Nat.mul_le_mul_right _ (by omega)
    have e : (i + 1) * hexCnt d = i * hexCnt d + hexCnt d := Nat.succ_mul _ _
    show i * hexCnt d + hexCnt d ≤ (d + 1) * hexCnt d + 1
    omega
theorem hcnt_last {d i f : Nat} (hi : i ≤ f) (hf : f ≤ d) : i * hexCnt (d - 1) + 1 ≤ hexCnt d := by
  cases d with
  | zero => have : i = 0 := by omega
            subst this; simp [hexCnt]
  | succ d =>
    have : i * hexCnt d ≤ (d + 1) * hexCnt d := Nat.mul_le_mul_right _ (by omega)
    show i * hexCnt d + 1 ≤ (d + 1) * hexCnt d + 1
    omega
theorem moverV_range (l : List Int) : 0 ≤ moverV l ∧ moverV l ≤ 2 := by
  unfold moverV
  split
  · omega
  · split <;> omega
theorem mover_val {n : Nat} {l : List Int} (hv : isHexV (n : Int) l = true) (hm : moverV l ≠ 0) : impl_Hex_mover.f n l = some (moverV l, true) := by
  rw [mover_some hv]
  unfold moverV at hm ⊢
  by_cases h1 : l.count 1 = l.count 2
  · rw [if_pos h1, decide_eq_true (.inl h1), h1]
    simp
  · rw [if_neg h1] at hm ⊢
    by_cases h2 : l.count 1 = l.count 2 + 1
    · rw [if_pos h2, decide_eq_true (.inr h2), h2]
      congr 2
      omega
    · rw [if_neg h2] at hm
      exact absurd rfl hm
theorem cells_val {n : Nat} {l : List Int} (hv : isHexV (n : Int) l = true) : impl_Hex_cells.f n l 0 = some (emptyL l) := by
  have := hex_small hv
  unfold impl_Hex_cells.f
  rw [if_pos (by omega)]
  rfl
theorem with_val {n : Nat} {l : List Int} {x m : Int} (hv : isHexV (n : Int) l = true) (h0 : 0 ≤ x) (h1 : x < l.length) : impl_Hex_with.f n l x m = some ((n : Int), l.set x.toNat m) := by
  have := hex_small hv
  unfold impl_Hex_with.f slices_Clone_int64_int64.f
  rw [if_pos (by omega), Option.bind_some, if_pos h0, if_pos h1]
theorem hw_small {v : Int} (h0 : 0 ≤ v) (h1 : v ≤ 2) : (Lit.int .i64 v).wf = true := by
  have : v = wrap64 v := by unfold wrap64; omega
  rw [this]; exact wrap64_wf v
/-- The winner of a board with d empty cells. -/
def hexEnd (k : Nat) (n : Int) (l : List Int) : Option Int := (impl_Hex_joiner.f k n l).bind fun v => if 0 ≤ v ∧ v ≤ 2 then some v else none
def hexAny (F : List Int → Option Int) (l : List Int) (m : Int) : List Int → Option Bool
  | [] => some false
  | x :: r => (F (l.set x.toNat m)).bind fun v => (hexAny F l m r).bind fun b => some (v == m || b)
def hexWinF (k : Nat) (n : Int) : Nat → List Int → Option Int
  | 0, l => hexEnd k n l
  | d + 1, l => (hexAny (hexWinF k n d) l (moverV l) (emptyL l)).bind fun b => some (if b = true then moverV l else 3 - moverV l)
theorem hexAny_some {F : List Int → Option Int} {l : List Int} {m : Int} : ∀ {r : List Int} {b : Bool}, hexAny F l m r = some b → (∀ x ∈ r, ∃ v, F (l.set x.toNat m) = some v) ∧ b = r.any fun x => (F (l.set x.toNat m)).getD 0 == m
  | [], b, h => ⟨fun x hx => absurd hx (by simp), by simpa [hexAny] using h.symm⟩
  | x :: r, b, h => by
    unfold hexAny at h
    obtain ⟨v, hv, h⟩ := Option.bind_eq_some_iff.1 h
    obtain ⟨b', hb', h⟩ := Option.bind_eq_some_iff.1 h
    obtain ⟨h1, h2⟩ := hexAny_some hb'
    refine ⟨fun y hy => ?_, ?_⟩
    · rcases List.mem_cons.1 hy with rfl | hy
      · exact ⟨v, hv⟩
      · exact h1 y hy
    · rw [List.any_cons, hv, ← h2]
      exact (Option.some.inj h).symm
def hw_T12 : Bool × List (List Nat × List Nat) := (true, [([], []), ([], []), ([], []), ([], []), ([1, 2, 3], [1, 2, 3]), ([0, 4, 4], [0, 4]), ([], []), ([5, 6], [5, 6])])
def hw_B12 : List Nat := [0, 0, 0, 0, 14, 31, 0, 127]
theorem hw_tab12 : rtab .any (opsOf Tryd.f58 12) = hw_T12 := by kernel_rfl
theorem hw_bits12 : waitsOk hw_T12.2 hw_B12 = true := by kernel_rfl
set_option maxHeartbeats 8000000 in
set_option maxRecDepth 100000 in
theorem hfind_step (w0 : World) (gK gF gm n : Nat) (P : List Int → Prop) (J Wv : List Int → Int) (HV : HexVal n P J Wv) (d : Nat) (IH : d ≠ 0 → HFind w0 gK gF gm n P Wv (d - 1)) : HFind w0 gK gF gm n P Wv d := by
  intro l A c N w hv hmv hd hrA hcA hE hN
  obtain ⟨D, hown, hmem⟩ := hE.memo
  obtain ⟨hjo, hjs⟩ := HV.joined l hv
  obtain ⟨kl, hkl⟩ := strKey (joinW l ⟨#[]⟩) hjs
  have h64 := hex_small hv
  obtain ⟨hm0, hm2⟩ := moverV_range l
  have HJO := Aside0.mk hjo
  have HE := Aside0.mk hE
  have HM := Aside0.mk hown
  have HMM := Aside0.mk hmem
  have HKL := Aside0.mk hkl
  have HVL := Aside0.mk hv
  have HMV := Aside0.mk (mover_val hv hmv.1)
  have HCE := Aside0.mk (cells_val hv)
  have HMN := Aside0.mk hmv
  have HD := Aside0.mk hd
  have H64 := Aside0.mk h64
  have HNB := Aside0.mk hN
  have HCP := Aside0.mk (hexCnt_pos d)
  have HA := Aside0.mk hrA
  have HC := Aside0.mk hcA
  have HGM := Aside0.mk (show gm < w.heap.size from hown.lt)
  have HB := Aside0.mk (Below.refl w.heap.size w)
  have HXK := Aside0.mk hE.hk
  have HSM := Aside0.mk (HV.small l hv hmv)
  have hck0 := (blk_cell HXK.out 0).trans rfl
  have zeroE : ∀ W : World, (zeroValue 2).run Tryd.prog W = .ok (.int .i64 0) W := fun W => by kernel_rfl
  have hu := Tryd.underlying28
  obtain ⟨hb, hhas⟩ : ∃ hb, Go.Maps.has D kl = hb := ⟨_, rfl⟩
  have HHAS := Aside0.mk hhas
  have HIH := Aside0.mk IH
  clear IH hE hown hmem hkl hd hN hrA hcA hhas hjo hjs h64
  cases hb with
  | true =>
    clear hm0 hm2
    go_enter Tryd.func58, Tryd.ntmps58
    go_wp2_with (first | ((with_reducible refine gate_dst (N := 3) rfl ?_); refine box_event ?hg (N := 3) ?hd (cs := #[.int .i64 (n : Int), .slice A l.length c]) (t := 28) ?hr ?_; (case hd => rfl); (case hg => rfl); (case hr => first | (go_simp; done) | (go_simp; rfl)); intro g3 hg_ w_ hbox hb; have HX3 := Aside0.mk hbox; have HG3 := Aside0.mk (show w.heap.size ≤ g3 ∧ gK ≠ g3 by have := below_size HB.out; have := blk_lt HXK.out; omega); (try clear hck0); clear hbox hg_; have nHB_ := Aside0.mk (below_step HB.out hb); have nHXK_ := Aside0.mk (blk_below HXK.out hb); have nHM_ := Aside0.mk (HM.out.kept (grown_of_below hb none) (by simp)); clear HB HXK HM hb; have HB := nHB_; have HXK := nHXK_; have HM := nHM_; clear nHB_ nHXK_ nHM_; have hck0 := (blk_cell HXK.out 0).trans rfl; have hc30 := (blk_cell HX3.out 0).trans rfl; have hc31 := (blk_cell HX3.out 1).trans rfl; have HGM3 := Aside0.mk (show g3 ≠ gm by have := HGM.out; have := HG3.out; omega)) | (go_at_call 59; refine (impl_joined.calls A c l ⟨#[]⟩ (joinW l ⟨#[]⟩) _ (Kd.C_below HA.out HB.out) HC.out HJO.out).mono ?_; rintro e w_ ⟨rfl, hb⟩; (try clear hck0); (try clear hc30); (try clear hc31); have nHB_ := Aside0.mk (below_step HB.out hb); have nHXK_ := Aside0.mk (blk_below HXK.out hb); have nHM_ := Aside0.mk (HM.out.kept (grown_of_below hb none) (by simp)); have nHX3_ := Aside0.mk (blk_below HX3.out hb); clear HB HXK HM HX3 hb; have HB := nHB_; have HXK := nHXK_; have HM := nHM_; have HX3 := nHX3_; clear nHB_ nHXK_ nHM_ nHX3_; have hck0 := (blk_cell HXK.out 0).trans rfl; have hc30 := (blk_cell HX3.out 0).trans rfl; have hc31 := (blk_cell HX3.out 1).trans rfl) | (at_lookup; refine wpList_lookup_own_ok_int _ rfl _ _ 69 rfl 9 2 .i64 strKeyed Tryd.underlying69 Tryd.underlying2 (zeroE _) gm N D rfl HM.out _ kl rfl HKL.out ?_; intro c1 hat hwc; have HAT := Aside0.mk hat; clear hat hwc; rw [HHAS.out]))
    have hc1 : c1 = Wv l := HMM.out _ kl c1 HKL.out HHAS.out HAT.out l HVL.out HMN.out rfl
    go_ret
    exact ⟨by rw [hc1]; rfl, (HE.out.step HB.out).mono (by omega), grown_of_below HB.out _⟩
  | false =>
    obtain ⟨mv, hmve⟩ : ∃ mv, moverV l = mv := ⟨_, rfl⟩
    rw [hmve] at HMV hm0 hm2
    obtain ⟨E, hEe⟩ : ∃ E, emptyL l = E := ⟨_, rfl⟩
    rw [hEe] at HCE HD
    have HEL := Aside0.mk (show E.length ≤ 64 by rw [← hEe]; exact Nat.le_trans (chosenTo_le _ _) H64.out)
    by_cases hz : E.length = 0
    · have he : E = [] := List.eq_nil_of_length_eq_zero hz
      have HWJ := Aside0.mk (HV.full l hv hmv (hEe.trans he))
      obtain ⟨K, hK⟩ := HV.join l hv hmv (hEe.trans he)
      have HJK := Aside0.mk hK
      have hzb : ((E.length : Int) == 0) = true := beq_iff_eq.2 (by omega)
      have q1 := decide_eq_false (show ¬ (0 : Int) < (E.length : Int) by omega)
      have HEZ := Aside0.mk hz
      clear hz he hK hm0 hm2
      have HSTEP := Aside0.mk (show (∃ (i : Nat) (hi : i < E.length), Wv (l.set E[i].toNat mv) = mv) → mv = Wv l from fun ⟨i, hi, _⟩ => by have := HEZ.out; omega)
      have HLAST := Aside0.mk (show (∀ (i : Nat) (hi : i < E.length), Wv (l.set E[i].toNat mv) ≠ mv) → J l = Wv l from fun _ => HWJ.out.symm)
      generalize J l = o0 at HLAST HJK
      go_enter Tryd.func58, Tryd.ntmps58
      go_wp2_with (first | ((with_reducible refine gate_dst (N := 3) rfl ?_); refine box_event ?hg (N := 3) ?hd (cs := #[.int .i64 (n : Int), .slice A l.length c]) (t := 28) ?hr ?_; (case hd => rfl); (case hg => rfl); (case hr => first | (go_simp; done) | (go_simp; rfl)); intro g3 hg_ w_ hbox hb; have HX3 := Aside0.mk hbox; have HG3 := Aside0.mk (show w.heap.size ≤ g3 ∧ gK ≠ g3 by have := below_size HB.out; have := blk_lt HXK.out; omega); (try clear hck0); clear hbox hg_; have nHB_ := Aside0.mk (below_step HB.out hb); have nHXK_ := Aside0.mk (blk_below HXK.out hb); have nHM_ := Aside0.mk (HM.out.kept (grown_of_below hb none) (by simp)); clear HB HXK HM hb; have HB := nHB_; have HXK := nHXK_; have HM := nHM_; clear nHB_ nHXK_ nHM_; have hck0 := (blk_cell HXK.out 0).trans rfl; have hc30 := (blk_cell HX3.out 0).trans rfl; have hc31 := (blk_cell HX3.out 1).trans rfl; have HGM3 := Aside0.mk (show g3 ≠ gm by have := HGM.out; have := HG3.out; omega)) | (go_at_call 59; refine (impl_joined.calls A c l ⟨#[]⟩ (joinW l ⟨#[]⟩) _ (Kd.C_below HA.out HB.out) HC.out HJO.out).mono ?_; rintro e w_ ⟨rfl, hb⟩; (try clear hck0); (try clear hc30); (try clear hc31); have nHB_ := Aside0.mk (below_step HB.out hb); have nHXK_ := Aside0.mk (blk_below HXK.out hb); have nHM_ := Aside0.mk (HM.out.kept (grown_of_below hb none) (by simp)); have nHX3_ := Aside0.mk (blk_below HX3.out hb); clear HB HXK HM HX3 hb; have HB := nHB_; have HXK := nHXK_; have HM := nHM_; have HX3 := nHX3_; clear nHB_ nHXK_ nHM_ nHX3_; have hck0 := (blk_cell HXK.out 0).trans rfl; have hc30 := (blk_cell HX3.out 0).trans rfl; have hc31 := (blk_cell HX3.out 1).trans rfl) | (at_lookup; refine wpList_lookup_own_ok_int _ rfl _ _ 69 rfl 9 2 .i64 strKeyed Tryd.underlying69 Tryd.underlying2 (zeroE _) gm N D rfl HM.out _ kl rfl HKL.out ?_; intro c1 hat hwc; clear hat hwc; rw [HHAS.out]) | (go_at_call 38; refine (impl_Hex_mover.calls n A c l mv true _ (Kd.C_below HA.out HB.out) HC.out HMV.out).mono ?_; rintro e w_ ⟨rfl, hb⟩; (try clear hck0); (try clear hc30); (try clear hc31); have nHB_ := Aside0.mk (below_step HB.out hb); have nHXK_ := Aside0.mk (blk_below HXK.out hb); have nHM_ := Aside0.mk (HM.out.kept (grown_of_below hb none) (by simp)); have nHX3_ := Aside0.mk (blk_below HX3.out hb); clear HB HXK HM HX3 hb; have HB := nHB_; have HXK := nHXK_; have HM := nHM_; have HX3 := nHX3_; clear nHB_ nHXK_ nHM_ nHX3_; have hck0 := (blk_cell HXK.out 0).trans rfl; have hc30 := (blk_cell HX3.out 0).trans rfl; have hc31 := (blk_cell HX3.out 1).trans rfl) | (go_at_call 40; refine (impl_Hex_cells.calls n A c l 0 E _ (Kd.C_below HA.out HB.out) HC.out HCE.out).mono ?_; rintro e w_ ⟨v33, rfl, ho, hb⟩; obtain ⟨A33, c33, e33⟩ := Kd.R_slice ho; subst e33; have HRE := Aside0.mk (Kd.R_lower (Kd.R_mono (ok' := fun k => k ≠ gm) (Kd.R_bound ho) (fun k hk => by have := hk.2.1; have := HM.out.lt; omega)) (below_size HB.out)); clear ho; (try clear hck0); (try clear hc30); (try clear hc31); have nHB_ := Aside0.mk (below_step HB.out hb); have nHXK_ := Aside0.mk (blk_below HXK.out hb); have nHM_ := Aside0.mk (HM.out.kept (grown_of_below hb none) (by simp)); have nHX3_ := Aside0.mk (blk_below HX3.out hb); clear HB HXK HM HX3 hb; have HB := nHB_; have HXK := nHXK_; have HM := nHM_; have HX3 := nHX3_; clear nHB_ nHXK_ nHM_ nHX3_; have hck0 := (blk_cell HXK.out 0).trans rfl; have hc30 := (blk_cell HX3.out 0).trans rfl; have hc31 := (blk_cell HX3.out 1).trans rfl) | (go_at_call 49; refine (impl_Hex_joiner.calls K n A c l o0 _ (Kd.C_below HA.out HB.out) HC.out HJK.out).mono ?_; rintro e w_ ⟨rfl, hb⟩; (try clear hck0); (try clear hc30); (try clear hc31); have nHB_ := Aside0.mk (below_step HB.out hb); have nHXK_ := Aside0.mk (blk_below HXK.out hb); have nHM_ := Aside0.mk (HM.out.kept (grown_of_below hb none) (by simp)); have nHX3_ := Aside0.mk (blk_below HX3.out hb); have nHRE_ := Aside0.mk (Kd.R_below HRE.out hb); clear HB HXK HM HX3 HRE hb; have HB := nHB_; have HXK := nHXK_; have HM := nHM_; have HX3 := nHX3_; have HRE := nHRE_; clear nHB_ nHXK_ nHM_ nHX3_ nHRE_; have hck0 := (blk_cell HXK.out 0).trans rfl; have hc30 := (blk_cell HX3.out 0).trans rfl; have hc31 := (blk_cell HX3.out 1).trans rfl))
      have HE0 := Aside0.mk (HE.out.step HB.out)
      have HG0 := Aside0.mk (grown_of_below HB.out (some gm))
      have HDN := Aside0.mk (show E ≠ [] → d ≠ 0 from fun h h2 => h (List.eq_nil_of_length_eq_zero (by have := HD.out; omega)))
      have HMP := Aside0.mk HE.out.map
      clear HB HXK HM hck0 hc30 hc31
      go_loopg [10, 41] E.length (fun gg s10 s41 wr => ∃ i : Nat, i ≤ E.length ∧ E.length - i ≤ gg ∧ s41 = .int .i64 i ∧ s10 = .int .i64 o0 ∧ Aside0 (∀ (j : Nat) (hj : j < E.length), j < i → Wv (l.set E[j].toNat mv) ≠ mv) ∧ Aside0 (HWEnv w0 gK gF gm n (N + i * hexCnt (d - 1)) P Wv wr) ∧ Aside0 (w.grownBy wr (some gm)) ∧ Aside0 (wr.heap[g3]? = some (.cells #[.int .i64 (n : Int), .slice A l.length c] 28 (0, 0))) ∧ Aside0 (Kd.R (Kd.int .i64) 2 wr w.heap.size (fun k => k ≠ gm) (.slice A33 E.length c33) E))
      case atStart => exact ⟨0, Nat.zero_le _, Nat.le_refl _, rfl, rfl, ⟨fun j _ h => absurd h (Nat.not_lt_zero _)⟩, ⟨by rw [Nat.zero_mul, Nat.add_zero]; exact HE0.out⟩, HG0, HX3, HRE⟩
      case round =>
        clear HE0 HG0 HX3 HRE
        obtain ⟨i, hi, hgi, rfl, rfl, HNO, HEr, HGr, HX3, HRE⟩ := hrel
        by_cases hlt : i < E.length
        · have q1 := decide_eq_true (show (i : Int) < (E.length : Int) by omega)
          have q2 := decide_eq_true hlt
          have q3 := eq_true (show (i : Int) < (E.length : Int) by omega)
          have q4 := eq_true (show (0 : Int) ≤ (i : Int) by omega)
          have q5 := eq_true hlt
          obtain ⟨adx, ex, hxx⟩ := Kd.at_int (Kd.R_reads' HRE.out).2.2 (i : Int) (by omega) (by omega)
          subst ex
          rw [Int.toNat_natCast, rd_get E i hlt] at hxx
          have hxm : E[i] ∈ emptyL l := by rw [hEe]; exact List.getElem_mem hlt
          obtain ⟨hx0, hx1, hx2_⟩ := (chosen_pair (fun c => rd l c == 0) l.length).2 E[i] hxm
          obtain ⟨ch1, ch2, ch3⟩ := HV.child l E[i] HVL.out HMN.out hxm
          rw [hmve] at ch1 ch2 ch3
          have HIT := Aside0.mk (show Wv (l.set E[i].toNat mv) = mv → mv = Wv l from fun h => HSTEP.out ⟨i, hlt, h⟩)
          have HNX := Aside0.mk (show Wv (l.set E[i].toNat mv) ≠ mv → ∀ (j : Nat) (hj : j < E.length), j < i + 1 → Wv (l.set E[j].toNat mv) ≠ mv from fun h j hj hji => by
            by_cases e : j = i
            · subst e; exact h
            · exact HNO.out j hj (by omega))
          have HWV := Aside0.mk (with_val (m := mv) HVL.out hx0 hx1)
          clear hx2_
          generalize E[i] = x at hxx hx0 hx1 ch1 ch2 ch3 HIT HNX HWV
          have HCI := Aside0.mk (hcnt_step (d := d) hlt (by have := HD.out; omega))
          have HIHx := Aside0.mk (HIH.out (HDN.out (fun h => by rw [h] at hlt; exact absurd hlt (by simp))) (l.set x.toNat mv))
          have hcd : (emptyL (l.set x.toNat mv)).length ≤ d - 1 := by rw [hEe] at ch3; have := HD.out; omega
          have HCH := Aside0.mk (And.intro ch1 (And.intro ch2 hcd))
          generalize l.set x.toNat mv = l2 at HIT HNX HWV HIHx HCH ch3
          have HJm := Aside0.mk (show E.length - (i + 1) < gk by omega)
          have HJr := Aside0.mk (show i + 1 ≤ E.length by omega)
          have HJs := Aside0.mk (show wrap64 ((i : Int) + 1) = ((i + 1 : Nat) : Int) from wrap_next hlt (by have := HEL.out; omega))
          clear hi hgi hlt hxm hx0 hx1 ch1 ch2 ch3 hcd
          go_wp2_with fail
          have n1_ := Aside0.mk HEr.out.drew
          have n2_ := Aside0.mk (blk_drew HX3.out)
          have n3_ := Aside0.mk (Kd.R_drew HRE.out)
          have nA_ := Aside0.mk (Kd.C_drew (C_memo HA.out HMP.out HGr.out))
          have nG_ := Aside0.mk (HGr.out.trans (grown_of_below (below_drew1 (Below.refl _ wr)) (some gm)))
          have hge := HIHx
          clear HEr HGr HX3 HRE hge
          refine start_ (n := 8) (S := fun w' => w'.cell? ⟨gF, 0, none⟩ = some (.func (.func 58) #[] #[.pointer (some ⟨gK, 0, none⟩), .pointer (some ⟨gF, 0, none⟩)]) ∧ w'.cell? ⟨g3, 0, none⟩ = some (.int .i64 (n : Int)) ∧ w'.cell? ⟨g3, 1, none⟩ = some (.slice A l.length c)) (ds := []) #[false, false, false, false, false, false, false, false] (by kernel_rfl) rfl rfl ⟨(blk_cell n1_.out.hf 0).trans rfl, (blk_cell n2_.out 0).trans rfl, (blk_cell n2_.out 1).trans rfl⟩ (fun hHeld => ?_)
          refine with_tabW hw_tab12 hw_bits12 (fun HT_ HW_ => ?_)
          generalize hq_ : wr.drew = wd_ at n1_ n2_ n3_ nA_ nG_ hHeld ⊢
          clear hq_
          refine take_ (i := 0) (N := some 45) (v := ?_) (a' := ?_) (flg_ 8 1) rfl rfl (take_ofW HT_.out HW_.out (by kernel_rfl)) (fun _ _ _ h => h) (Or.inl ⟨by rfl, ?_⟩) hHeld ?_ ?_
          rotate_left
          · rintro w' ⟨s0, s1, s2⟩
            go_simp
            with_reducible rfl
          rotate_left
          · simp only [Act.put, sz_, s0_, s1_, i64_w, i32_w]
            rfl
          refine take_ (i := 1) (N := some 46) (v := ?_) (a' := ?_) (flg_ 8 3) rfl rfl (take_ofW HT_.out HW_.out (by kernel_rfl)) (fun _ _ _ h => h) (Or.inl ⟨by rfl, ?_⟩) hHeld ?_ ?_
          rotate_left
          · rintro w' ⟨s0, s1, s2⟩
            go_simp
            with_reducible rfl
          rotate_left
          · simp only [Act.put, sz_, s0_, s1_, i64_w, i32_w]
            rfl
          refine pure_ (i := 2) (N := some 47) (v := ?_) (a' := ?_) (flg_ 8 7) rfl rfl (any_of HT_.out (by kernel_rfl)) (fun _ _ _ h => h) (Or.inl ⟨by rfl, ?_⟩) ?_ ?_
          rotate_left
          · intro w'
            go_simp
            with_reducible rfl
          rotate_left
          · simp only [Act.put, sz_, s0_, s1_, i64_w, i32_w]
            rfl
          refine pure_ (i := 3) (N := some 48) (v := ?_) (a' := ?_) (flg_ 8 15) rfl rfl (any_of HT_.out (by kernel_rfl)) (fun _ _ _ h => h) (Or.inl ⟨by rfl, ?_⟩) ?_ ?_
          rotate_left
          · intro w'
            go_simp
            with_reducible rfl
          rotate_left
          · simp only [Act.put, sz_, s0_, s1_, i64_w, i32_w]
            rfl
          refine pure_ (i := 6) (N := some 51) (v := ?_) (a' := ?_) (flg_ 8 79) rfl rfl (any_of HT_.out (by kernel_rfl)) (fun _ _ _ h => h) (Or.inl ⟨by rfl, ?_⟩) ?_ ?_
          rotate_left
          · intro w'
            go_simp
            with_reducible rfl
          rotate_left
          · simp only [Act.put, sz_, s0_, s1_, i64_w, i32_w]
            rfl
          refine one_ (i := 4) (N := some 49) (flg_ 8 95) rfl rfl (one_of HT_.out (by kernel_rfl)) (by decide) (fun K hK => ?_)
          refine goes_ Tryd.func42 (by kernel_rfl) rfl #[.agg #[.int .i64 (n : Int), .slice A l.length c], .int .i64 x, .int .i64 mv] (by rfl) rfl rfl (by (try simp only [List.map_toArray, List.map_cons, List.map_nil]); first | done | rfl) ?_
          refine (impl_Hex_with.calls n A c l x mv n l2 _ nA_.out HC.out HWV.out).mono ?_
          rintro e wa_ ⟨v49, rfl, ho, hb⟩
          refine ⟨_, rfl, ?_⟩
          obtain ⟨A49, c49, e49⟩ := Kd.R_slice ho
          subst e49
          have HO2 := Aside0.mk ho
          have HE2 := Aside0.mk (n1_.out.step hb)
          have HX2 := Aside0.mk (blk_below n2_.out hb)
          have HR2 := Aside0.mk (Kd.R_below n3_.out hb)
          have nG2_ := Aside0.mk (nG_.out.trans (grown_of_below hb (some gm)))
          clear ho hb n1_ n2_ n3_ nA_ nG_
          refine hK.out _ _ ⟨(blk_cell HE2.out.hf 0).trans rfl, (blk_cell HX2.out 0).trans rfl, (blk_cell HX2.out 1).trans rfl⟩ (fun hHeld => ?_)
          clear hK K
          refine norm_ (a' := ?_) ?_ ?_
          rotate_left
          · show Act.put _ (some 49) _ = _
            simp only [Act.put, sz_, s0_, s1_, i64_w, i32_w]
            rfl
          refine one_ (i := 5) (N := some 50) (flg_ 8 127) rfl rfl (one_of HT_.out (by kernel_rfl)) (by decide) (fun K hK => ?_)
          refine goesF_ (x := .tmp 45) (lb := #[.pointer (some ⟨gK, 0, none⟩), .pointer (some ⟨gF, 0, none⟩)]) eg_hfind #[.agg #[.int .i64 (n : Int), .slice A49 l2.length c49]] (by rfl) rfl rfl rfl (by (try simp only [List.map_toArray, List.map_cons, List.map_nil]); first | done | rfl) ?_
          refine (HIHx.out A49 c49 (N + i * hexCnt (d - 1)) _ HCH.out.1 HCH.out.2.1 HCH.out.2.2 (Kd.R_reads' HO2.out).2.2 (Kd.R_reads' HO2.out).2.1 HE2.out (by have := HCI.out; have := HNB.out; omega)).mono ?_
          rintro e wb_ ⟨rfl, hE3, hG3⟩
          refine ⟨_, rfl, ?_⟩
          have HE4 := Aside0.mk hE3
          have HX4 := Aside0.mk (blk_grownB HX2.out hG3 HGM3.out)
          have HRE4 := Aside0.mk (Kd.R_grown HR2.out hG3 (fun k hk e_ => hk (by injection e_)))
          have nG4_ := Aside0.mk (nG2_.out.trans hG3)
          clear hE3 hG3 HO2 HE2 HX2 HR2 nG2_
          refine hK.out _ _ ⟨(blk_cell HE4.out.hf 0).trans rfl, (blk_cell HX4.out 0).trans rfl, (blk_cell HX4.out 1).trans rfl⟩ (fun hHeld => ?_)
          clear hK K
          refine norm_ (a' := ?_) ?_ ?_
          rotate_left
          · show Act.put _ (some 50) _ = _
            simp only [Act.put, sz_, s0_, s1_, i64_w, i32_w]
            rfl
          refine pure_ (i := 7) (N := some 52) (v := ?_) (a' := ?_) (flg_ 8 255) rfl rfl (any_of HT_.out (by kernel_rfl)) (fun _ _ _ h => h) (Or.inl ⟨by rfl, ?_⟩) ?_ ?_
          rotate_left
          · intro w'
            go_simp
            with_reducible rfl
          rotate_left
          · simp only [Act.put, sz_, s0_, s1_, i64_w, i32_w]
            rfl
          refine done_ (done_of HT_.out (by kernel_rfl)) ?_
          cases hres : (Wv l2 == mv) with
          | true =>
            have HRES := Aside0.mk (HIT.out (beq_iff_eq.1 hres))
            clear HIT HNX
            have hck0 := (blk_cell HE4.out.hk 0).trans rfl
            obtain ⟨⟨D2, hown2, hmem2⟩⟩ : Aside0 (HasMemo Tryd.prog 9 2 (HWF n P Wv) gm (N + i * hexCnt (d - 1) + hexCnt (d - 1)) wb_) := ⟨HE4.out.memo⟩
            have HM2 := Aside0.mk hown2
            have HMM2 := Aside0.mk hmem2
            clear hown2 hmem2
            go_wp2_with (first | (at_mapUpdate; refine wpList_mapUpdate_own _ rfl _ _ _ 69 rfl 9 2 strKeyed Tryd.underlying69 _ gm (N + i * hexCnt (d - 1) + hexCnt (d - 1)) _ rfl HM2.out (by have := HNB.out; have := hcnt_last (d := d) (i := i + 1) HJr.out (by have := HD.out; omega); rw [Nat.succ_mul] at this; omega) _ _ kl rfl rfl HKL.out _ [] (plainElem_int Tryd.underlying2 (by rw [HRES.out]; have := HSM.out; exact hw_small this.1 this.2)) ?_; intro w4_ hown4 hg4_; have HW4 := Aside0.mk hown4; have HG4_ := Aside0.mk hg4_; clear hown4 hg4_))
            go_ret
            exact ⟨by rw [← HRES.out]; rfl, hw_env HE4.out HW4.out (HMM2.out.put strKeyed HM2.out.isMap HKL.out (fun l3 g1 g2 e => by injection e with e; rw [HV.key l3 l g1 HVL.out e.symm]; exact HRES.out)) HG4_.out (by have := hcnt_last (d := d) (i := i + 1) HJr.out (by have := HD.out; omega); rw [Nat.succ_mul] at this; omega), nG4_.out.trans HG4_.out⟩
          | false =>
            have HNX2 := Aside0.mk (HNX.out (beq_eq_false_iff_ne.1 hres))
            clear HIT HNX
            go_wp2_with fail
            go_roundg (E.length - (i + 1))
            case measure => exact HJm.out
            case rel => exact ⟨i + 1, HJr.out, Nat.le_refl _, (by first | rfl | exact congrArg (Value.int .i64) HJs.out), rfl, HNX2, ⟨by rw [Nat.succ_mul, ← Nat.add_assoc]; exact HE4.out⟩, nG4_, HX4, HRE4⟩
        · have hie : i = E.length := by omega
          subst hie
          have q1 := decide_eq_false (show ¬ (E.length : Int) < (E.length : Int) by omega)
          have HRES := Aside0.mk (HLAST.out (fun j hj => HNO.out j hj hj))
          have hck0 := (blk_cell HEr.out.hk 0).trans rfl
          obtain ⟨⟨D2, hown2, hmem2⟩⟩ : Aside0 (HasMemo Tryd.prog 9 2 (HWF n P Wv) gm (N + E.length * hexCnt (d - 1)) wr) := ⟨HEr.out.memo⟩
          have HM2 := Aside0.mk hown2
          have HMM2 := Aside0.mk hmem2
          clear hown2 hmem2 hi hgi hlt
          go_wp2_with (first | (at_mapUpdate; refine wpList_mapUpdate_own _ rfl _ _ _ 69 rfl 9 2 strKeyed Tryd.underlying69 _ gm (N + E.length * hexCnt (d - 1)) _ rfl HM2.out (by have := HNB.out; have := hcnt_last (d := d) (i := E.length) (Nat.le_refl _) HD.out; omega) _ _ kl rfl rfl HKL.out _ [] (plainElem_int Tryd.underlying2 (by rw [HRES.out]; have := HSM.out; exact hw_small this.1 this.2)) ?_; intro w4_ hown4 hg4_; have HW4 := Aside0.mk hown4; have HG4_ := Aside0.mk hg4_; clear hown4 hg4_))
          go_ret
          exact ⟨by rw [← HRES.out]; rfl, hw_env HEr.out HW4.out (HMM2.out.put strKeyed HM2.out.isMap HKL.out (fun l3 g1 g2 e => by injection e with e; rw [HV.key l3 l g1 HVL.out e.symm]; exact HRES.out)) HG4_.out (by have := hcnt_last (d := d) (i := E.length) (Nat.le_refl _) HD.out; omega), HGr.out.trans HG4_.out⟩
    · have hzb : ((E.length : Int) == 0) = false := beq_eq_false_iff_ne.2 (by omega)
      have hws := HV.step l hv hmv (by rw [hEe]; intro h; rw [h] at hz; exact hz rfl)
      rw [hEe, hmve] at hws
      have hany : ((E.any fun x => Wv (l.set x.toNat mv) == mv) = true) ↔ ∃ (i : Nat) (hi : i < E.length), Wv (l.set E[i].toNat mv) = mv := by
        rw [List.any_eq_true]
        constructor
        · rintro ⟨x, hx, h⟩
          obtain ⟨i, hi, rfl⟩ := List.mem_iff_getElem.1 hx
          exact ⟨i, hi, beq_iff_eq.1 h⟩
        · rintro ⟨i, hi, h⟩
          exact ⟨_, List.getElem_mem hi, beq_iff_eq.2 h⟩
      have HSTEP := Aside0.mk (show (∃ (i : Nat) (hi : i < E.length), Wv (l.set E[i].toNat mv) = mv) → mv = Wv l from fun h => by rw [hws, if_pos (hany.2 h)])
      have hw3 : wrap64 (3 - mv) = 3 - mv := by unfold wrap64; omega
      have HLAST := Aside0.mk (show (∀ (i : Nat) (hi : i < E.length), Wv (l.set E[i].toNat mv) ≠ mv) → wrap64 (3 - mv) = Wv l from fun h => by rw [hw3, hws, if_neg (fun e => by obtain ⟨i, hi, e⟩ := hany.1 e; exact h i hi e)])
      obtain ⟨o0, ho0⟩ : ∃ o0, wrap64 (3 - mv) = o0 := ⟨_, rfl⟩
      rw [ho0] at HLAST
      have HO0 := Aside0.mk ho0
      clear hz hws hany hw3 ho0 hm0 hm2
      go_enter Tryd.func58, Tryd.ntmps58
      go_wp2_with (first | ((with_reducible refine gate_dst (N := 3) rfl ?_); refine box_event ?hg (N := 3) ?hd (cs := #[.int .i64 (n : Int), .slice A l.length c]) (t := 28) ?hr ?_; (case hd => rfl); (case hg => rfl); (case hr => first | (go_simp; done) | (go_simp; rfl)); intro g3 hg_ w_ hbox hb; have HX3 := Aside0.mk hbox; have HG3 := Aside0.mk (show w.heap.size ≤ g3 ∧ gK ≠ g3 by have := below_size HB.out; have := blk_lt HXK.out; omega); (try clear hck0); clear hbox hg_; have nHB_ := Aside0.mk (below_step HB.out hb); have nHXK_ := Aside0.mk (blk_below HXK.out hb); have nHM_ := Aside0.mk (HM.out.kept (grown_of_below hb none) (by simp)); clear HB HXK HM hb; have HB := nHB_; have HXK := nHXK_; have HM := nHM_; clear nHB_ nHXK_ nHM_; have hck0 := (blk_cell HXK.out 0).trans rfl; have hc30 := (blk_cell HX3.out 0).trans rfl; have hc31 := (blk_cell HX3.out 1).trans rfl; have HGM3 := Aside0.mk (show g3 ≠ gm by have := HGM.out; have := HG3.out; omega)) | (go_at_call 59; refine (impl_joined.calls A c l ⟨#[]⟩ (joinW l ⟨#[]⟩) _ (Kd.C_below HA.out HB.out) HC.out HJO.out).mono ?_; rintro e w_ ⟨rfl, hb⟩; (try clear hck0); (try clear hc30); (try clear hc31); have nHB_ := Aside0.mk (below_step HB.out hb); have nHXK_ := Aside0.mk (blk_below HXK.out hb); have nHM_ := Aside0.mk (HM.out.kept (grown_of_below hb none) (by simp)); have nHX3_ := Aside0.mk (blk_below HX3.out hb); clear HB HXK HM HX3 hb; have HB := nHB_; have HXK := nHXK_; have HM := nHM_; have HX3 := nHX3_; clear nHB_ nHXK_ nHM_ nHX3_; have hck0 := (blk_cell HXK.out 0).trans rfl; have hc30 := (blk_cell HX3.out 0).trans rfl; have hc31 := (blk_cell HX3.out 1).trans rfl) | (at_lookup; refine wpList_lookup_own_ok_int _ rfl _ _ 69 rfl 9 2 .i64 strKeyed Tryd.underlying69 Tryd.underlying2 (zeroE _) gm N D rfl HM.out _ kl rfl HKL.out ?_; intro c1 hat hwc; clear hat hwc; rw [HHAS.out]) | (go_at_call 38; refine (impl_Hex_mover.calls n A c l mv true _ (Kd.C_below HA.out HB.out) HC.out HMV.out).mono ?_; rintro e w_ ⟨rfl, hb⟩; (try clear hck0); (try clear hc30); (try clear hc31); have nHB_ := Aside0.mk (below_step HB.out hb); have nHXK_ := Aside0.mk (blk_below HXK.out hb); have nHM_ := Aside0.mk (HM.out.kept (grown_of_below hb none) (by simp)); have nHX3_ := Aside0.mk (blk_below HX3.out hb); clear HB HXK HM HX3 hb; have HB := nHB_; have HXK := nHXK_; have HM := nHM_; have HX3 := nHX3_; clear nHB_ nHXK_ nHM_ nHX3_; have hck0 := (blk_cell HXK.out 0).trans rfl; have hc30 := (blk_cell HX3.out 0).trans rfl; have hc31 := (blk_cell HX3.out 1).trans rfl) | (go_at_call 40; refine (impl_Hex_cells.calls n A c l 0 E _ (Kd.C_below HA.out HB.out) HC.out HCE.out).mono ?_; rintro e w_ ⟨v33, rfl, ho, hb⟩; obtain ⟨A33, c33, e33⟩ := Kd.R_slice ho; subst e33; have HRE := Aside0.mk (Kd.R_lower (Kd.R_mono (ok' := fun k => k ≠ gm) (Kd.R_bound ho) (fun k hk => by have := hk.2.1; have := HM.out.lt; omega)) (below_size HB.out)); clear ho; (try clear hck0); (try clear hc30); (try clear hc31); have nHB_ := Aside0.mk (below_step HB.out hb); have nHXK_ := Aside0.mk (blk_below HXK.out hb); have nHM_ := Aside0.mk (HM.out.kept (grown_of_below hb none) (by simp)); have nHX3_ := Aside0.mk (blk_below HX3.out hb); clear HB HXK HM HX3 hb; have HB := nHB_; have HXK := nHXK_; have HM := nHM_; have HX3 := nHX3_; clear nHB_ nHXK_ nHM_ nHX3_; have hck0 := (blk_cell HXK.out 0).trans rfl; have hc30 := (blk_cell HX3.out 0).trans rfl; have hc31 := (blk_cell HX3.out 1).trans rfl))
      rw [HO0.out]
      have HE0 := Aside0.mk (HE.out.step HB.out)
      have HG0 := Aside0.mk (grown_of_below HB.out (some gm))
      have HDN := Aside0.mk (show E ≠ [] → d ≠ 0 from fun h h2 => h (List.eq_nil_of_length_eq_zero (by have := HD.out; omega)))
      have HMP := Aside0.mk HE.out.map
      clear HB HXK HM hck0 hc30 hc31
      go_loopg [10, 41] E.length (fun gg s10 s41 wr => ∃ i : Nat, i ≤ E.length ∧ E.length - i ≤ gg ∧ s41 = .int .i64 i ∧ s10 = .int .i64 o0 ∧ Aside0 (∀ (j : Nat) (hj : j < E.length), j < i → Wv (l.set E[j].toNat mv) ≠ mv) ∧ Aside0 (HWEnv w0 gK gF gm n (N + i * hexCnt (d - 1)) P Wv wr) ∧ Aside0 (w.grownBy wr (some gm)) ∧ Aside0 (wr.heap[g3]? = some (.cells #[.int .i64 (n : Int), .slice A l.length c] 28 (0, 0))) ∧ Aside0 (Kd.R (Kd.int .i64) 2 wr w.heap.size (fun k => k ≠ gm) (.slice A33 E.length c33) E))
      case atStart => exact ⟨0, Nat.zero_le _, Nat.le_refl _, rfl, rfl, ⟨fun j _ h => absurd h (Nat.not_lt_zero _)⟩, ⟨by rw [Nat.zero_mul, Nat.add_zero]; exact HE0.out⟩, HG0, HX3, HRE⟩
      case round =>
        clear HE0 HG0 HX3 HRE
        obtain ⟨i, hi, hgi, rfl, rfl, HNO, HEr, HGr, HX3, HRE⟩ := hrel
        by_cases hlt : i < E.length
        · have q1 := decide_eq_true (show (i : Int) < (E.length : Int) by omega)
          have q2 := decide_eq_true hlt
          have q3 := eq_true (show (i : Int) < (E.length : Int) by omega)
          have q4 := eq_true (show (0 : Int) ≤ (i : Int) by omega)
          have q5 := eq_true hlt
          obtain ⟨adx, ex, hxx⟩ := Kd.at_int (Kd.R_reads' HRE.out).2.2 (i : Int) (by omega) (by omega)
          subst ex
          rw [Int.toNat_natCast, rd_get E i hlt] at hxx
          have hxm : E[i] ∈ emptyL l := by rw [hEe]; exact List.getElem_mem hlt
          obtain ⟨hx0, hx1, hx2_⟩ := (chosen_pair (fun c => rd l c == 0) l.length).2 E[i] hxm
          obtain ⟨ch1, ch2, ch3⟩ := HV.child l E[i] HVL.out HMN.out hxm
          rw [hmve] at ch1 ch2 ch3
          have HIT := Aside0.mk (show Wv (l.set E[i].toNat mv) = mv → mv = Wv l from fun h => HSTEP.out ⟨i, hlt, h⟩)
          have HNX := Aside0.mk (show Wv (l.set E[i].toNat mv) ≠ mv → ∀ (j : Nat) (hj : j < E.length), j < i + 1 → Wv (l.set E[j].toNat mv) ≠ mv from fun h j hj hji => by
            by_cases e : j = i
            · subst e; exact h
            · exact HNO.out j hj (by omega))
          have HWV := Aside0.mk (with_val (m := mv) HVL.out hx0 hx1)
          clear hx2_
          generalize E[i] = x at hxx hx0 hx1 ch1 ch2 ch3 HIT HNX HWV
          have HCI := Aside0.mk (hcnt_step (d := d) hlt (by have := HD.out; omega))
          have HIHx := Aside0.mk (HIH.out (HDN.out (fun h => by rw [h] at hlt; exact absurd hlt (by simp))) (l.set x.toNat mv))
          have hcd : (emptyL (l.set x.toNat mv)).length ≤ d - 1 := by rw [hEe] at ch3; have := HD.out; omega
          have HCH := Aside0.mk (And.intro ch1 (And.intro ch2 hcd))
          generalize l.set x.toNat mv = l2 at HIT HNX HWV HIHx HCH ch3
          have HJm := Aside0.mk (show E.length - (i + 1) < gk by omega)
          have HJr := Aside0.mk (show i + 1 ≤ E.length by omega)
          have HJs := Aside0.mk (show wrap64 ((i : Int) + 1) = ((i + 1 : Nat) : Int) from wrap_next hlt (by have := HEL.out; omega))
          clear hi hgi hlt hxm hx0 hx1 ch1 ch2 ch3 hcd
          go_wp2_with fail
          have n1_ := Aside0.mk HEr.out.drew
          have n2_ := Aside0.mk (blk_drew HX3.out)
          have n3_ := Aside0.mk (Kd.R_drew HRE.out)
          have nA_ := Aside0.mk (Kd.C_drew (C_memo HA.out HMP.out HGr.out))
          have nG_ := Aside0.mk (HGr.out.trans (grown_of_below (below_drew1 (Below.refl _ wr)) (some gm)))
          have hge := HIHx
          clear HEr HGr HX3 HRE hge
          refine start_ (n := 8) (S := fun w' => w'.cell? ⟨gF, 0, none⟩ = some (.func (.func 58) #[] #[.pointer (some ⟨gK, 0, none⟩), .pointer (some ⟨gF, 0, none⟩)]) ∧ w'.cell? ⟨g3, 0, none⟩ = some (.int .i64 (n : Int)) ∧ w'.cell? ⟨g3, 1, none⟩ = some (.slice A l.length c)) (ds := []) #[false, false, false, false, false, false, false, false] (by kernel_rfl) rfl rfl ⟨(blk_cell n1_.out.hf 0).trans rfl, (blk_cell n2_.out 0).trans rfl, (blk_cell n2_.out 1).trans rfl⟩ (fun hHeld => ?_)
          refine with_tabW hw_tab12 hw_bits12 (fun HT_ HW_ => ?_)
          generalize hq_ : wr.drew = wd_ at n1_ n2_ n3_ nA_ nG_ hHeld ⊢
          clear hq_
          refine take_ (i := 0) (N := some 45) (v := ?_) (a' := ?_) (flg_ 8 1) rfl rfl (take_ofW HT_.out HW_.out (by kernel_rfl)) (fun _ _ _ h => h) (Or.inl ⟨by rfl, ?_⟩) hHeld ?_ ?_
          rotate_left
          · rintro w' ⟨s0, s1, s2⟩
            go_simp
            with_reducible rfl
          rotate_left
          · simp only [Act.put, sz_, s0_, s1_, i64_w, i32_w]
            rfl
          refine take_ (i := 1) (N := some 46) (v := ?_) (a' := ?_) (flg_ 8 3) rfl rfl (take_ofW HT_.out HW_.out (by kernel_rfl)) (fun _ _ _ h => h) (Or.inl ⟨by rfl, ?_⟩) hHeld ?_ ?_
          rotate_left
          · rintro w' ⟨s0, s1, s2⟩
            go_simp
            with_reducible rfl
          rotate_left
          · simp only [Act.put, sz_, s0_, s1_, i64_w, i32_w]
            rfl
          refine pure_ (i := 2) (N := some 47) (v := ?_) (a' := ?_) (flg_ 8 7) rfl rfl (any_of HT_.out (by kernel_rfl)) (fun _ _ _ h => h) (Or.inl ⟨by rfl, ?_⟩) ?_ ?_
          rotate_left
          · intro w'
            go_simp
            with_reducible rfl
          rotate_left
          · simp only [Act.put, sz_, s0_, s1_, i64_w, i32_w]
            rfl
          refine pure_ (i := 3) (N := some 48) (v := ?_) (a' := ?_) (flg_ 8 15) rfl rfl (any_of HT_.out (by kernel_rfl)) (fun _ _ _ h => h) (Or.inl ⟨by rfl, ?_⟩) ?_ ?_
          rotate_left
          · intro w'
            go_simp
            with_reducible rfl
          rotate_left
          · simp only [Act.put, sz_, s0_, s1_, i64_w, i32_w]
            rfl
          refine pure_ (i := 6) (N := some 51) (v := ?_) (a' := ?_) (flg_ 8 79) rfl rfl (any_of HT_.out (by kernel_rfl)) (fun _ _ _ h => h) (Or.inl ⟨by rfl, ?_⟩) ?_ ?_
          rotate_left
          · intro w'
            go_simp
            with_reducible rfl
          rotate_left
          · simp only [Act.put, sz_, s0_, s1_, i64_w, i32_w]
            rfl
          refine one_ (i := 4) (N := some 49) (flg_ 8 95) rfl rfl (one_of HT_.out (by kernel_rfl)) (by decide) (fun K hK => ?_)
          refine goes_ Tryd.func42 (by kernel_rfl) rfl #[.agg #[.int .i64 (n : Int), .slice A l.length c], .int .i64 x, .int .i64 mv] (by rfl) rfl rfl (by (try simp only [List.map_toArray, List.map_cons, List.map_nil]); first | done | rfl) ?_
          refine (impl_Hex_with.calls n A c l x mv n l2 _ nA_.out HC.out HWV.out).mono ?_
          rintro e wa_ ⟨v49, rfl, ho, hb⟩
          refine ⟨_, rfl, ?_⟩
          obtain ⟨A49, c49, e49⟩ := Kd.R_slice ho
          subst e49
          have HO2 := Aside0.mk ho
          have HE2 := Aside0.mk (n1_.out.step hb)
          have HX2 := Aside0.mk (blk_below n2_.out hb)
          have HR2 := Aside0.mk (Kd.R_below n3_.out hb)
          have nG2_ := Aside0.mk (nG_.out.trans (grown_of_below hb (some gm)))
          clear ho hb n1_ n2_ n3_ nA_ nG_
          refine hK.out _ _ ⟨(blk_cell HE2.out.hf 0).trans rfl, (blk_cell HX2.out 0).trans rfl, (blk_cell HX2.out 1).trans rfl⟩ (fun hHeld => ?_)
          clear hK K
          refine norm_ (a' := ?_) ?_ ?_
          rotate_left
          · show Act.put _ (some 49) _ = _
            simp only [Act.put, sz_, s0_, s1_, i64_w, i32_w]
            rfl
          refine one_ (i := 5) (N := some 50) (flg_ 8 127) rfl rfl (one_of HT_.out (by kernel_rfl)) (by decide) (fun K hK => ?_)
          refine goesF_ (x := .tmp 45) (lb := #[.pointer (some ⟨gK, 0, none⟩), .pointer (some ⟨gF, 0, none⟩)]) eg_hfind #[.agg #[.int .i64 (n : Int), .slice A49 l2.length c49]] (by rfl) rfl rfl rfl (by (try simp only [List.map_toArray, List.map_cons, List.map_nil]); first | done | rfl) ?_
          refine (HIHx.out A49 c49 (N + i * hexCnt (d - 1)) _ HCH.out.1 HCH.out.2.1 HCH.out.2.2 (Kd.R_reads' HO2.out).2.2 (Kd.R_reads' HO2.out).2.1 HE2.out (by have := HCI.out; have := HNB.out; omega)).mono ?_
          rintro e wb_ ⟨rfl, hE3, hG3⟩
          refine ⟨_, rfl, ?_⟩
          have HE4 := Aside0.mk hE3
          have HX4 := Aside0.mk (blk_grownB HX2.out hG3 HGM3.out)
          have HRE4 := Aside0.mk (Kd.R_grown HR2.out hG3 (fun k hk e_ => hk (by injection e_)))
          have nG4_ := Aside0.mk (nG2_.out.trans hG3)
          clear hE3 hG3 HO2 HE2 HX2 HR2 nG2_
          refine hK.out _ _ ⟨(blk_cell HE4.out.hf 0).trans rfl, (blk_cell HX4.out 0).trans rfl, (blk_cell HX4.out 1).trans rfl⟩ (fun hHeld => ?_)
          clear hK K
          refine norm_ (a' := ?_) ?_ ?_
          rotate_left
          · show Act.put _ (some 50) _ = _
            simp only [Act.put, sz_, s0_, s1_, i64_w, i32_w]
            rfl
          refine pure_ (i := 7) (N := some 52) (v := ?_) (a' := ?_) (flg_ 8 255) rfl rfl (any_of HT_.out (by kernel_rfl)) (fun _ _ _ h => h) (Or.inl ⟨by rfl, ?_⟩) ?_ ?_
          rotate_left
          · intro w'
            go_simp
            with_reducible rfl
          rotate_left
          · simp only [Act.put, sz_, s0_, s1_, i64_w, i32_w]
            rfl
          refine done_ (done_of HT_.out (by kernel_rfl)) ?_
          cases hres : (Wv l2 == mv) with
          | true =>
            have HRES := Aside0.mk (HIT.out (beq_iff_eq.1 hres))
            clear HIT HNX
            have hck0 := (blk_cell HE4.out.hk 0).trans rfl
            obtain ⟨⟨D2, hown2, hmem2⟩⟩ : Aside0 (HasMemo Tryd.prog 9 2 (HWF n P Wv) gm (N + i * hexCnt (d - 1) + hexCnt (d - 1)) wb_) := ⟨HE4.out.memo⟩
            have HM2 := Aside0.mk hown2
            have HMM2 := Aside0.mk hmem2
            clear hown2 hmem2
            go_wp2_with (first | (at_mapUpdate; refine wpList_mapUpdate_own _ rfl _ _ _ 69 rfl 9 2 strKeyed Tryd.underlying69 _ gm (N + i * hexCnt (d - 1) + hexCnt (d - 1)) _ rfl HM2.out (by have := HNB.out; have := hcnt_last (d := d) (i := i + 1) HJr.out (by have := HD.out; omega); rw [Nat.succ_mul] at this; omega) _ _ kl rfl rfl HKL.out _ [] (plainElem_int Tryd.underlying2 (by rw [HRES.out]; have := HSM.out; exact hw_small this.1 this.2)) ?_; intro w4_ hown4 hg4_; have HW4 := Aside0.mk hown4; have HG4_ := Aside0.mk hg4_; clear hown4 hg4_))
            go_ret
            exact ⟨by rw [← HRES.out]; rfl, hw_env HE4.out HW4.out (HMM2.out.put strKeyed HM2.out.isMap HKL.out (fun l3 g1 g2 e => by injection e with e; rw [HV.key l3 l g1 HVL.out e.symm]; exact HRES.out)) HG4_.out (by have := hcnt_last (d := d) (i := i + 1) HJr.out (by have := HD.out; omega); rw [Nat.succ_mul] at this; omega), nG4_.out.trans HG4_.out⟩
          | false =>
            have HNX2 := Aside0.mk (HNX.out (beq_eq_false_iff_ne.1 hres))
            clear HIT HNX
            go_wp2_with fail
            go_roundg (E.length - (i + 1))
            case measure => exact HJm.out
            case rel => exact ⟨i + 1, HJr.out, Nat.le_refl _, (by first | rfl | exact congrArg (Value.int .i64) HJs.out), rfl, HNX2, ⟨by rw [Nat.succ_mul, ← Nat.add_assoc]; exact HE4.out⟩, nG4_, HX4, HRE4⟩
        · have hie : i = E.length := by omega
          subst hie
          have q1 := decide_eq_false (show ¬ (E.length : Int) < (E.length : Int) by omega)
          have HRES := Aside0.mk (HLAST.out (fun j hj => HNO.out j hj hj))
          have hck0 := (blk_cell HEr.out.hk 0).trans rfl
          obtain ⟨⟨D2, hown2, hmem2⟩⟩ : Aside0 (HasMemo Tryd.prog 9 2 (HWF n P Wv) gm (N + E.length * hexCnt (d - 1)) wr) := ⟨HEr.out.memo⟩
          have HM2 := Aside0.mk hown2
          have HMM2 := Aside0.mk hmem2
          clear hown2 hmem2 hi hgi hlt
          go_wp2_with (first | (at_mapUpdate; refine wpList_mapUpdate_own _ rfl _ _ _ 69 rfl 9 2 strKeyed Tryd.underlying69 _ gm (N + E.length * hexCnt (d - 1)) _ rfl HM2.out (by have := HNB.out; have := hcnt_last (d := d) (i := E.length) (Nat.le_refl _) HD.out; omega) _ _ kl rfl rfl HKL.out _ [] (plainElem_int Tryd.underlying2 (by rw [HRES.out]; have := HSM.out; exact hw_small this.1 this.2)) ?_; intro w4_ hown4 hg4_; have HW4 := Aside0.mk hown4; have HG4_ := Aside0.mk hg4_; clear hown4 hg4_))
          go_ret
          exact ⟨by rw [← HRES.out]; rfl, hw_env HEr.out HW4.out (HMM2.out.put strKeyed HM2.out.isMap HKL.out (fun l3 g1 g2 e => by injection e with e; rw [HV.key l3 l g1 HVL.out e.symm]; exact HRES.out)) HG4_.out (by have := hcnt_last (d := d) (i := E.length) (Nat.le_refl _) HD.out; omega), HGr.out.trans HG4_.out⟩
theorem hfind_all (w0 : World) (gK gF gm n : Nat) (P : List Int → Prop) (J Wv : List Int → Int) (HV : HexVal n P J Wv) : ∀ d, HFind w0 gK gF gm n P Wv d
  | 0 => hfind_step w0 gK gF gm n P J Wv HV 0 (fun h => absurd rfl h)
  | d + 1 => hfind_step w0 gK gF gm n P J Wv HV (d + 1) (fun _ => hfind_all w0 gK gF gm n P J Wv HV d)
set_option maxHeartbeats 8000000 in
set_option maxRecDepth 100000 in
theorem impl_hexWins.calls (n : Nat) (P : List Int → Prop) (Wv : List Int → Int) (w : World) :
    Calls Tryd.prog 36 #[] w fun e w' => ∃ gK gF gm : Nat, e = .returned (.func (.func 58) #[] #[.pointer (some ⟨gK, 0, none⟩), .pointer (some ⟨gF, 0, none⟩)]) ∧ HWEnv w gK gF gm n 0 P Wv w' := by
  have HB := Aside0.mk (Below.refl w.heap.size w)
  have hmm := @run_makeMap Tryd.prog
  have hrs := fun (w : World) (a : Addr) (m : Mode) (g : Option Nat) => @run_store_map_ Tryd.prog w a m g
  have hrf := fun (w : World) (a : Addr) (m : Mode) (f : Fn) (t b : Array Value) => @run_store_func Tryd.prog w a m f t b
  go_enter Tryd.func36, Tryd.ntmps36
  go_wp2_with (first | ((with_reducible refine gate_dst (N := 3) rfl ?_); refine made_event ?hg (N := 3) ?hd 9 (plainElem Tryd.prog 2) ?hr ?_; (case hd => rfl); (case hg => rfl); (case hr => first | (go_simp; done) | (go_simp; rfl)); intro gm hgm wm hown hb; have HGM := Aside0.mk (show w.heap.size ≤ gm by have := below_size HB.out; omega); have HM := Aside0.mk hown; clear hown hgm; have nHB_ := Aside0.mk (below_step HB.out hb); clear HB hb; have HB := nHB_; clear nHB_) | ((with_reducible refine gate_dst (N := 1) rfl ?_); refine box_event ?hg (N := 1) ?hd (cs := #[.map none]) (t := 69) ?hr ?_; (case hd => rfl); (case hg => rfl); (case hr => first | (go_simp; done) | (go_simp; rfl)); intro gK hg_ w_ hbox hb; have HXK := Aside0.mk hbox; have HGKM0 := Aside0.mk (show gm < gK by have := HM.out.lt; omega); have HGK := Aside0.mk (show w.heap.size ≤ gK ∧ True from ⟨by have := below_size HB.out; omega, trivial⟩); clear hbox hg_; have nHB_ := Aside0.mk (below_step HB.out hb); have nHM_ := Aside0.mk (HM.out.kept (grown_of_below hb none) (by simp)); clear HB HM hb; have HB := nHB_; have HM := nHM_; clear nHB_ nHM_; have hck0 := (blk_cell HXK.out 0).trans rfl; have HGKM := Aside0.mk (show gm ≠ gK by have := HGKM0.out; omega)) | ((with_reducible refine gate_store (t := 69) (p := 1) rfl ?_); have hfz_ := blk_frozen HXK.out 0; refine store_event (t := 69) (p := 1) (v := .tmp 3) (w1 := (w_.setCell ⟨gK, 0, none⟩ (.map (some gm)))) ?hg ?ho ?hn ?hr ?_; (case ho => rfl); (case hg => rfl); (case hn => rfl); (case hr => first | (go_simp; done) | (go_simp; rfl)); intro w2_ hw_; clear hfz_; have nHB_ := Aside0.mk ((below_set HB.out HGK.out.1 : Below w.heap.size w (w_.setCell ⟨gK, 0, none⟩ (.map (some gm))))); have nHM_ := Aside0.mk (HM.out.setCell (a := ⟨gK, 0, none⟩) (HGKM.out) (.map (some gm))); have nHXK_ := Aside0.mk (blk_put HXK.out 0 (.map (some gm)) rfl); replace nHB_ := nHB_.out; rw [← hw_] at nHB_; replace nHM_ := nHM_.out; rw [← hw_] at nHM_; replace nHXK_ := nHXK_.out; rw [← hw_] at nHXK_; (try clear hck0); clear hw_ HB HM HXK; have HB := Aside0.mk nHB_; have HM := Aside0.mk nHM_; have HXK := Aside0.mk nHXK_; clear nHB_ nHM_ nHXK_; have hck0 := (blk_cell HXK.out 0).trans rfl) | ((with_reducible refine gate_dst (N := 2) rfl ?_); refine box_event ?hg (N := 2) ?hd (cs := #[.nilFunc]) (t := 48) ?hr ?_; (case hd => rfl); (case hg => rfl); (case hr => first | (go_simp; done) | (go_simp; rfl)); intro gF hg_ w_ hbox hb; have HXF := Aside0.mk hbox; have HGFM0 := Aside0.mk (show gm < gF by have := HM.out.lt; omega); have HGF := Aside0.mk (show w.heap.size ≤ gF ∧ gK ≠ gF by have := below_size HB.out; have := blk_lt HXK.out; omega); (try clear hck0); clear hbox hg_; have nHB_ := Aside0.mk (below_step HB.out hb); have nHM_ := Aside0.mk (HM.out.kept (grown_of_below hb none) (by simp)); have nHXK_ := Aside0.mk (blk_below HXK.out hb); clear HB HM HXK hb; have HB := nHB_; have HM := nHM_; have HXK := nHXK_; clear nHB_ nHM_ nHXK_; have hck0 := (blk_cell HXK.out 0).trans rfl; have hcf0 := (blk_cell HXF.out 0).trans rfl; have HGFM := Aside0.mk (show gm ≠ gF by have := HGFM0.out; omega)) | ((with_reducible refine gate_store (t := 48) (p := 2) rfl ?_); have hfz_ := blk_frozen HXF.out 0; refine store_event (t := 48) (p := 2) (v := .tmp 4) (w1 := (w_.setCell ⟨gF, 0, none⟩ (.func (.func 58) #[] #[.pointer (some ⟨gK, 0, none⟩), .pointer (some ⟨gF, 0, none⟩)]))) ?hg ?ho ?hn ?hr ?_; (case ho => rfl); (case hg => rfl); (case hn => rfl); (case hr => first | (go_simp; done) | (go_simp; rfl)); intro w2_ hw_; clear hfz_; have nHB_ := Aside0.mk ((below_set HB.out HGF.out.1 : Below w.heap.size w (w_.setCell ⟨gF, 0, none⟩ (.func (.func 58) #[] #[.pointer (some ⟨gK, 0, none⟩), .pointer (some ⟨gF, 0, none⟩)])))); have nHM_ := Aside0.mk (HM.out.setCell (a := ⟨gF, 0, none⟩) (HGFM.out) (.func (.func 58) #[] #[.pointer (some ⟨gK, 0, none⟩), .pointer (some ⟨gF, 0, none⟩)])); have nHXK_ := Aside0.mk (blk_far (p := ⟨gF, 0, none⟩) HXK.out (show gK ≠ gF by have := HGF.out; omega) (.func (.func 58) #[] #[.pointer (some ⟨gK, 0, none⟩), .pointer (some ⟨gF, 0, none⟩)])); have nHXF_ := Aside0.mk (blk_put HXF.out 0 (.func (.func 58) #[] #[.pointer (some ⟨gK, 0, none⟩), .pointer (some ⟨gF, 0, none⟩)]) rfl); replace nHB_ := nHB_.out; rw [← hw_] at nHB_; replace nHM_ := nHM_.out; rw [← hw_] at nHM_; replace nHXK_ := nHXK_.out; rw [← hw_] at nHXK_; replace nHXF_ := nHXF_.out; rw [← hw_] at nHXF_; (try clear hck0); (try clear hcf0); clear hw_ HB HM HXK HXF; have HB := Aside0.mk nHB_; have HM := Aside0.mk nHM_; have HXK := Aside0.mk nHXK_; have HXF := Aside0.mk nHXF_; clear nHB_ nHM_ nHXK_ nHXF_; have hck0 := (blk_cell HXK.out 0).trans rfl; have hcf0 := (blk_cell HXF.out 0).trans rfl))
  go_ret
  exact ⟨gK, gF, gm, rfl, HB.out, HXK.out, HXF.out, ⟨_, HM.out, Memo.empty⟩, ⟨HGKM.out, HGFM.out⟩, HGM.out⟩
-- slices.DeleteFunc: what stays, in place.
theorem idxK_spec (p : Int → Bool) : ∀ (l : List Int) (i : Nat), l.any p = true → ∃ k : Nat, idxK p l i = ((i + k : Nat) : Int) ∧ k < l.length ∧ l.take k = (l.take (k + 1)).filter (fun x => !p x)
  | [], i, h => by simp at h
  | x :: r, i, h => by
    cases hx : p x with
    | true =>
      refine ⟨0, by simp [idxK, hx], by simp, by simp [hx]⟩
    | false =>
      have hr : r.any p = true := by simpa [hx] using h
      obtain ⟨k, h1, h2, h3⟩ := idxK_spec p r (i + 1) hr
      refine ⟨k + 1, ?_, by simp; omega, ?_⟩
      · unfold idxK
        rw [hx, if_neg (by simp), h1]
        congr 1; omega
      · rw [List.take_succ_cons, List.take_succ_cons, List.filter_cons_of_pos (by simp [hx]), ← h3]
theorem idxK_none (p : Int → Bool) : ∀ (l : List Int) (i : Nat), l.any p = false → idxK p l i = -1 ∧ l.filter (fun x => !p x) = l
  | [], _, _ => by simp [idxK]
  | x :: r, i, h => by
    simp only [List.any_cons, Bool.or_eq_false_iff] at h
    obtain ⟨h1, h2⟩ := idxK_none p r (i + 1) h.2
    refine ⟨by simp [idxK, h.1, h1], by rw [List.filter_cons_of_pos (by simp [h.1]), h2]⟩
def DelInv (p : Int → Bool) (l : List Int) (i j : Nat) (xs : List Int) : Prop := xs.length = l.length ∧ i < j ∧ j ≤ l.length ∧ xs.take i = (l.take j).filter (fun x => !p x) ∧ xs.drop j = l.drop j
theorem DelInv.at_ {p : Int → Bool} {l : List Int} {i j : Nat} {xs : List Int} (h : DelInv p l i j xs) (hj : j < l.length) (h2 : j < xs.length) : xs[j] = l[j] := by
  have e := h.2.2.2.2
  rw [List.drop_eq_getElem_cons h2, List.drop_eq_getElem_cons hj] at e
  injection e
theorem DelInv.keep {p : Int → Bool} {l : List Int} {i j : Nat} {xs : List Int} (h : DelInv p l i j xs) (hj : j < l.length) (hp : p l[j] = false) : DelInv p l (i + 1) (j + 1) (xs.set i l[j]) := by
  obtain ⟨h1, h2, h3, h4, h5⟩ := h
  refine ⟨by simpa using h1, by omega, by omega, ?_, ?_⟩
  · have hi : i < xs.length := by omega
    rw [List.take_succ_eq_append_getElem (by simpa using hi), List.take_succ_eq_append_getElem hj, List.filter_append, List.take_set_of_le (Nat.le_refl i), h4]
    simp [hp]
  · rw [List.drop_set_of_lt (by omega), ← List.drop_drop, ← List.drop_drop, h5]
theorem DelInv.skip {p : Int → Bool} {l : List Int} {i j : Nat} {xs : List Int} (h : DelInv p l i j xs) (hj : j < l.length) (hp : p l[j] = true) : DelInv p l i (j + 1) xs := by
  obtain ⟨h1, h2, h3, h4, h5⟩ := h
  refine ⟨h1, by omega, by omega, ?_, ?_⟩
  · rw [List.take_succ_eq_append_getElem hj, List.filter_append, h4]
    simp [hp]
  · rw [← List.drop_drop, ← List.drop_drop, h5]
theorem R_clear {T base g n cap nb : Nat} {w0 : World} {ok : Nat → Prop} (hg : w0.heap.size ≤ g) : ∀ (m i : Nat) (W : World) (xs : List Int), Kd.R (Kd.int .i64) T W base ok (.slice (some ⟨g, 0, none⟩) n cap) xs → Below w0.heap.size w0 W → i + m ≤ xs.length →
    ∃ ys : List Int, Kd.R (Kd.int .i64) T (W.setCells g i (List.replicate m (.int .i64 0))) base ok (.slice (some ⟨g, 0, none⟩) n cap) ys ∧ ys.length = xs.length ∧ ys.take i = xs.take i ∧ Below w0.heap.size w0 (W.setCells g i (List.replicate m (.int .i64 0)))
  | 0, i, W, xs, h, hB, _ => ⟨xs, h, rfl, rfl, hB⟩
  | m + 1, i, W, xs, h, hB, hm => by
    have h1 := (Kd.R_putg h (i : Int) 0).1
    rw [Int.toNat_natCast] at h1
    have hB1 : Below w0.heap.size w0 (W.setCell ⟨g, i, none⟩ (.int .i64 0)) := below_set hB hg
    obtain ⟨ys, h2, h3, h4, h5⟩ := R_clear (nb := nb) hg m (i + 1) _ _ h1 hB1 (by simp; omega)
    refine ⟨ys, h2, by simpa using h3, ?_, h5⟩
    have := congrArg (List.take i) h4
    rw [List.take_take, List.take_take, Nat.min_eq_left (by omega), List.take_set_of_le (Nat.le_refl i)] at this
    exact this
theorem R_clearI {T base g n cap : Nat} {ok : Nat → Prop} (J : World → Prop) (hJ : ∀ W j v, J W → J (W.setCell ⟨g, j, none⟩ v)) : ∀ (m i : Nat) (W : World) (xs : List Int), Kd.R (Kd.int .i64) T W base ok (.slice (some ⟨g, 0, none⟩) n cap) xs → J W → i + m ≤ xs.length →
    ∃ ys : List Int, Kd.R (Kd.int .i64) T (W.setCells g i (List.replicate m (.int .i64 0))) base ok (.slice (some ⟨g, 0, none⟩) n cap) ys ∧ ys.length = xs.length ∧ ys.take i = xs.take i ∧ J (W.setCells g i (List.replicate m (.int .i64 0)))
  | 0, i, W, xs, h, hB, _ => ⟨xs, h, rfl, rfl, hB⟩
  | m + 1, i, W, xs, h, hB, hm => by
    have h1 := (Kd.R_putg h (i : Int) 0).1
    rw [Int.toNat_natCast] at h1
    obtain ⟨ys, h2, h3, h4, h5⟩ := R_clearI J hJ m (i + 1) _ _ h1 (hJ _ i _ hB) (by simp; omega)
    refine ⟨ys, h2, by simpa using h3, ?_, h5⟩
    have := congrArg (List.take i) h4
    rw [List.take_take, List.take_take, Nat.min_eq_left (by omega), List.take_set_of_le (Nat.le_refl i)] at this
    exact this

end Go.Proofs.YtbmiojnkfgcfoaaDoor.F
