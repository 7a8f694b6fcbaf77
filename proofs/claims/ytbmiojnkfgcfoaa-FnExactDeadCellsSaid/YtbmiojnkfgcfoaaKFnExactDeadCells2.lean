-- written by the session's program xp.py over the kit's print program, and by hand; texts joined by pack.py
import Derived.Test.YtbmiojnkfgcfoaaKFnExactDeadCells1
namespace Go.Proofs.Ytbmiojnkfgcfoaa.F
open Go.RowKit Go.Proofs.YtbmiojnkfgcfoaaW.PrintWords Go.Proofs.YtbmiojnkfgcfoaaW.PrintLast Go.Proofs.YtbmiojnkfgcfoaaW.PrintMore
attribute [local go_sem] max2_int min2_int max_two min_two max_three min_three max_four min_four   -- for this text's walks alone
set_option linter.unusedVariables false
set_option linter.unusedSimpArgs false

/-! ### impl_Hex_need: function 82 -/
-- EXTERNAL: by hand
-- impl_Hex_line impl_size_int64_72 impl_near impl_bit nearV_ok isHexV_cells wrap_next
def needBest (s : Int) (p : Int) : List (Option Int) → Nat → Int → Int
  | [], _, b => b
  | none :: r, c, b => needBest s p r (c + 1) b
  | some n :: r, c, b => needBest s p r (c + 1) (if lineV s p (c : Int) = s - 1 ∧ (b < 0 ∨ n < b) then n else b)
def impl_Hex_need.f (k : Nat) (s : Int) (l : List Int) (p : Int) : Option Int :=
  if isHexV s l = true then (farLoop s l p k true (farInit s l p l.length)).bind fun far => if (∀ o ∈ far, ∀ c, o = some c → 0 ≤ c ∧ c ≤ 4611686018427387904) then some (needBest s p far 0 (-1)) else none else none
theorem line_val {s : Int} (l : List Int) (p c : Int) (hs : s ≠ 0) : impl_Hex_line.f s l p c = some (lineV s p c) := by
  unfold impl_Hex_line.f lineV
  by_cases h : p = 1
  · rw [if_pos h, if_neg hs, if_pos h]
  · rw [if_neg h, if_neg hs, if_neg h]
set_option maxHeartbeats 2000000 in
set_option maxRecDepth 100000 in
theorem needCost (g2 : Nat) (s : Int) (A : Option Addr) (c : Nat) (l : List Int) (W : World) (h2 : W.heap[g2]? = some (.cells #[.int .i64 s, .slice A l.length c] 28 (0, 0))) (hr : Kd.C (Kd.int .i64) W A l.length l) (x : Int) (h0 : 0 ≤ x) (h1 : x < (l.length : Int)) :
    Calls Try.prog 114 #[.int .i64 x, .pointer (some ⟨g2, 0, none⟩)] W fun e w' => e = .returned (.int .i64 (costV l x)) ∧ Drawn0 W w' := by
  have hu := Try.underlying28
  have hc1 : W.cell? ⟨g2, 1, none⟩ = some (.slice A l.length c) := (blk_cell h2 1).trans rfl
  obtain ⟨ad, rfl, hx⟩ := Kd.at_int hr x h0 h1
  have p := eq_true h0
  have q := eq_true h1
  have HV := fun W => impl_bit.calls (rd l x == 0) (costV l x) W (by unfold impl_bit.f costV; by_cases h : rd l x = 0 <;> simp [h])
  clear h2 hr
  go_enter Try.func114, Try.ntmps114
  go_wp2_with (go_at_call 115; refine (HV _).mono ?_; rintro e w' ⟨rfl, hd⟩)
  go_ret
  exact ⟨rfl, hd⟩
set_option maxHeartbeats 2000000 in
set_option maxRecDepth 100000 in
theorem needOpen (g2 g3 : Nat) (s : Int) (A : Option Addr) (c : Nat) (l : List Int) (pl : Int) (W : World) (h2 : W.heap[g2]? = some (.cells #[.int .i64 s, .slice A l.length c] 28 (0, 0))) (h3 : W.heap[g3]? = some (.cells #[.int .i64 pl] 2 (0, 0))) (hr : Kd.C (Kd.int .i64) W A l.length l) (x : Int) (h0 : 0 ≤ x) (h1 : x < (l.length : Int)) :
    Calls Try.prog 116 #[.int .i64 x, .pointer (some ⟨g2, 0, none⟩), .pointer (some ⟨g3, 0, none⟩)] W fun e w' => e = .returned (.bool (openV l pl x)) ∧ Drawn0 W w' := by
  have hu := Try.underlying28
  have hc1 : W.cell? ⟨g2, 1, none⟩ = some (.slice A l.length c) := (blk_cell h2 1).trans rfl
  have hc3 : W.cell? ⟨g3, 0, none⟩ = some (.int .i64 pl) := (blk_cell h3 0).trans rfl
  obtain ⟨ad, rfl, hx⟩ := Kd.at_int hr x h0 h1
  have p := eq_true h0
  have q := eq_true h1
  clear h2 h3 hr
  unfold openV
  generalize rd l x = y at hx ⊢
  cases hy : (y == 0) with
  | true =>
    go_enter Try.func116, Try.ntmps116
    go_wp2_with fail
    go_quiet (fail)
    go_wp2_with fail
    go_ret
    exact ⟨by simp, ⟨_, rfl⟩⟩
  | false =>
    go_enter Try.func116, Try.ntmps116
    go_wp2_with fail
    go_quiet (fail)
    go_wp2_with fail
    go_ret
    exact ⟨by simp, ⟨_, rfl⟩⟩

theorem farInit_len (s : Int) (l : List Int) (p : Int) (i : Nat) : (farInit s l p i).length = l.length := by simp [farInit]
theorem farInit_zero (s : Int) (l : List Int) (p : Int) : farInit s l p 0 = List.replicate l.length none := by
  apply List.ext_getElem (by simp [farInit])
  intro i h1 h2
  simp [farInit]
theorem farInit_step (s : Int) (l : List Int) (p : Int) (i : Nat) (h : i < l.length) : farInit s l p (i + 1) = if ((lineV s p (i : Int) == 0) && openV l p (i : Int)) = true then (farInit s l p i).set i (some (costV l (i : Int))) else farInit s l p i := by
  apply List.ext_getElem (by split <;> simp [farInit])
  intro j h1 h2
  have hj : j < l.length := by simpa [farInit] using h1
  have e : ∀ q, (farInit s l p q)[j]'(by simpa [farInit] using hj) = if (decide (j < q) && (lineV s p (j : Int) == 0) && openV l p (j : Int)) = true then some (costV l (j : Int)) else none := fun q => by simp [farInit]
  rw [e]
  by_cases c : ((lineV s p (i : Int) == 0) && openV l p (i : Int)) = true
  · simp only [if_pos c]
    rw [List.getElem_set]
    by_cases hij : i = j
    · subst hij
      rw [if_pos rfl, decide_eq_true (by omega), Bool.true_and, if_pos c]
    · rw [if_neg hij, e]
      by_cases hlt : j < i
      · rw [decide_eq_true (by omega), decide_eq_true hlt]
      · rw [decide_eq_false (by omega), decide_eq_false hlt]
  · simp only [if_neg c]
    rw [e]
    by_cases hij : i = j
    · subst hij
      rw [decide_eq_true (by omega), decide_eq_false (Nat.lt_irrefl _), Bool.true_and, if_neg c]; simp
    · by_cases hlt : j < i
      · rw [decide_eq_true (by omega), decide_eq_true hlt]
      · rw [decide_eq_false (by omega), decide_eq_false hlt]
theorem farStep_len (l : List Int) (p n : Int) : ∀ (r : List Int) (far : List (Option Int)) (ch : Bool), (farStep l p n r far ch).1.length = far.length
  | [], _, _ => rfl
  | x :: r, far, ch => by
    unfold farStep
    split
    · rw [farStep_len l p n r]; simp
    · rw [farStep_len l p n r]
theorem farRound_len (s : Int) (l : List Int) (p : Int) : ∀ (d c : Nat) (far : List (Option Int)) (ch : Bool), (farRound s l p d c far ch).1.length = far.length
  | 0, _, _, _ => rfl
  | d + 1, c, far, ch => by
    unfold farRound
    split
    · exact farRound_len s l p d _ _ _
    · rw [farRound_len s l p d, farStep_len]
theorem mem_getD_ {far : List (Option Int)} {i : Nat} {c : Int} (h : far.getD i none = some c) : some c ∈ far := by
  by_cases hi : i < far.length
  · rw [List.getD_eq_getElem?_getD, List.getElem?_eq_getElem hi] at h
    have h : far[i] = some c := h
    rw [← h]
    exact List.getElem_mem hi
  · rw [List.getD_eq_getElem?_getD, List.getElem?_eq_none (by omega)] at h; cases h
def need_T31 : Bool × List (List Nat × List Nat) := (true, [([], []), ([], []), ([], []), ([0, 1, 2], [0, 1, 2]), ([], []), ([4], [4]), ([5], [5]), ([3, 6], [3, 6]), ([7, 3], [7]), ([8], [8]), ([9, 8], [8, 9]), ([10, 8, 8], [8, 10]), ([11], [11]), ([11], [11]), ([12, 13, 11], [11, 12, 13]), ([11, 14, 8], [8, 11, 14]), ([8, 15], [8, 15])])
def need_B31 : List Nat := [0, 0, 0, 7, 0, 16, 48, 127, 255, 511, 1023, 2047, 4095, 4095, 16383, 32767, 65535]
theorem need_tab31 : rtab .any (opsOf Try.f82 31) = need_T31 := by kernel_rfl
theorem need_bits31 : waitsOk need_T31.2 need_B31 = true := by kernel_rfl
theorem farRound_at (s : Int) (l : List Int) (p : Int) {i : Nat} (hi : i < l.length) (far : List (Option Int)) (ch : Bool) : farRound s l p (l.length - i) i far ch = match far.getD i none with
    | none => farRound s l p (l.length - (i + 1)) (i + 1) far ch
    | some n => farRound s l p (l.length - (i + 1)) (i + 1) (farStep l p n (nearV s (i : Int)) far ch).1 (farStep l p n (nearV s (i : Int)) far ch).2 := by
  have e : l.length - i = (l.length - (i + 1)) + 1 := by omega
  rw [e]
  rfl
theorem near_in_ {s : Int} {l : List Int} (hs : 1 ≤ s ∧ s ≤ 8) (hl : (l.length : Int) = s * s) {i : Nat} (hi : i < l.length) : (nearV s (i : Int)).length ≤ 100 ∧ ∀ z ∈ nearV s (i : Int), 0 ≤ z ∧ z < (l.length : Int) := by
  obtain ⟨n, rfl⟩ : ∃ n : Nat, s = (n : Int) := ⟨s.toNat, by omega⟩
  have hl2 : l.length = n * n := by
    have : ((n * n : Nat) : Int) = (n : Int) * (n : Int) := Int.natCast_mul n n
    omega
  have h := nearV_ok (n := n) (a := i) (by omega) (by omega) (by omega)
  have hle : (nearV (n : Int) (i : Int)).length ≤ 6 := nearTo_le _ _ _ _
  refine ⟨by omega, fun z hz => ?_⟩
  have := h.2 z hz
  omega
theorem FarIs.look {D : DataW Unit} {far : List (Option Int)} (h : FarIs D far) (x : Int) (h0 : 0 ≤ x) : Go.Maps.has D (.int .i64 x) = (far.getD x.toNat none).isSome := by
  rw [h.2.2.1 x, decide_eq_true h0, Bool.true_and]
theorem FarIs.val {D : DataW Unit} {far : List (Option Int)} (h : FarIs D far) {x m c : Int} (h0 : 0 ≤ x) (hm : far.getD x.toNat none = some m) (hat : D.atKey (.int .i64 x) (.lit (.int .i64 0)) = .lit (.int .i64 c)) : c = m := by
  rw [h.2.2.2 x m h0 hm] at hat
  injection hat with e
  injection e with _ e
  exact e.symm
theorem FarIs.entry {D : DataW Unit} {far : List (Option Int)} (h : FarIs D far) {x c : Int} (hat : ∀ zd, D.atKey (.int .i64 x) zd = .lit (.int .i64 c)) : 0 ≤ x ∧ x < far.length ∧ far.getD x.toNat none = some c := by
  have hh := Go.Maps.has_true_of_atKey hat
  rw [h.2.2.1 x] at hh
  have h0 : 0 ≤ x := by
    by_cases e : 0 ≤ x
    · exact e
    · rw [decide_eq_false e] at hh; cases hh
  rw [decide_eq_true h0, Bool.true_and] at hh
  obtain ⟨m, hm⟩ := Option.isSome_iff_exists.1 hh
  have e := h.val h0 hm (hat _)
  refine ⟨h0, ?_, by rw [hm, e]⟩
  by_cases hl : x < far.length
  · exact hl
  · rw [List.getD_eq_getElem?_getD, List.getElem?_eq_none (by omega)] at hm
    cases hm
theorem best_start {s p : Int} {n : Nat} {D : DataW Unit} {far : List (Option Int)} (h : FarIs D far) : IsBest s p n far (fun x => !Go.Maps.has D (.int .i64 x)) (-1) := by
  refine .inl ⟨rfl, fun x c h0 hn hg hf => ?_⟩
  have hg : (!Go.Maps.has D (.int .i64 x)) = true := hg
  rw [h.look x h0, hf] at hg
  cases hg
theorem key_same (x y : Int) : (Lit.int .i64 y).sameKey (.int .i64 x) = decide (y = x) := by
  by_cases h : y = x
  · subst h; simp [Lit.sameKey]
  · rw [Go.Maps.sameKey_ne (fun e => h (by injection e)), decide_eq_false h]
theorem best_step {s p : Int} {n : Nat} {far : List (Option Int)} {left : Lit → Bool} {b x c : Int} (hb : IsBest s p n far (fun y => !left (.int .i64 y)) b) (h0 : 0 ≤ x) (hn : x < n) (hf : far.getD x.toNat none = some c) (hc : 0 ≤ c) :
    IsBest s p n far (fun y => !(left (.int .i64 y) && !(Lit.int .i64 y).sameKey (.int .i64 x))) (if lineV s p x = s - 1 ∧ (b < 0 ∨ c < b) then c else b) := by
  have hg : ∀ y, (!(left (.int .i64 y) && !(Lit.int .i64 y).sameKey (.int .i64 x))) = true ↔ ((!left (.int .i64 y)) = true ∨ y = x) := fun y => by
    rw [key_same]; cases left (.int .i64 y) <;> simp
  by_cases hl : lineV s p x = s - 1
  · rcases hb with ⟨rfl, hb⟩ | ⟨hb0, ⟨z, hz0, hzn, hzg, hzf, hzl⟩, hm⟩
    · rw [if_pos ⟨hl, .inl (by omega)⟩]
      refine .inr ⟨hc, ⟨x, h0, hn, (hg x).2 (.inr rfl), hf, hl⟩, fun y d y0 yn yg yf yl => ?_⟩
      rcases (hg y).1 yg with h | h
      · exact absurd yl (hb y d y0 yn h yf)
      · subst h; rw [hf] at yf; cases yf; exact Int.le_refl _
    · by_cases hlt : c < b
      · rw [if_pos ⟨hl, .inr hlt⟩]
        refine .inr ⟨hc, ⟨x, h0, hn, (hg x).2 (.inr rfl), hf, hl⟩, fun y d y0 yn yg yf yl => ?_⟩
        rcases (hg y).1 yg with h | h
        · have := hm y d y0 yn h yf yl; omega
        · subst h; rw [hf] at yf; cases yf; exact Int.le_refl _
      · rw [if_neg (fun h => by rcases h.2 with h | h <;> omega)]
        refine .inr ⟨hb0, ⟨z, hz0, hzn, (hg z).2 (.inl hzg), hzf, hzl⟩, fun y d y0 yn yg yf yl => ?_⟩
        rcases (hg y).1 yg with h | h
        · exact hm y d y0 yn h yf yl
        · subst h; rw [hf] at yf; cases yf; omega
  · rw [if_neg (fun h => hl h.1)]
    rcases hb with ⟨rfl, hb⟩ | ⟨hb0, ⟨z, hz0, hzn, hzg, hzf, hzl⟩, hm⟩
    · refine .inl ⟨rfl, fun y d y0 yn yg yf => ?_⟩
      rcases (hg y).1 yg with h | h
      · exact hb y d y0 yn h yf
      · subst h; exact hl
    · refine .inr ⟨hb0, ⟨z, hz0, hzn, (hg z).2 (.inl hzg), hzf, hzl⟩, fun y d y0 yn yg yf yl => ?_⟩
      rcases (hg y).1 yg with h | h
      · exact hm y d y0 yn h yf yl
      · subst h; exact absurd yl hl
theorem needBest_is (s p : Int) (far : List (Option Int)) (hpos : ∀ o ∈ far, ∀ c, o = some c → 0 ≤ c) : ∀ (r : List (Option Int)) (i : Nat) (b : Int), far.drop i = r → i ≤ far.length → IsBest s p far.length far (fun y => decide (y < i)) b → IsBest s p far.length far (fun _ => true) (needBest s p r i b)
  | [], i, b, hd, hi, h => by
    have hl : i = far.length := by
      have := congrArg List.length hd
      rw [List.length_drop, List.length_nil] at this
      omega
    rw [needBest]
    rcases h with ⟨rfl, h⟩ | ⟨h0, ⟨z, hz0, hzn, _, hzf, hzl⟩, hm⟩
    · exact .inl ⟨rfl, fun x c x0 xn _ xf => h x c x0 xn (decide_eq_true (by omega)) xf⟩
    · exact .inr ⟨h0, ⟨z, hz0, hzn, rfl, hzf, hzl⟩, fun x c x0 xn _ xf xl => hm x c x0 xn (decide_eq_true (by omega)) xf xl⟩
  | o :: r, i, b, hd, hi, h => by
    have hlt : i < far.length := by
      have := congrArg List.length hd
      rw [List.length_drop, List.length_cons] at this
      omega
    rw [List.drop_eq_getElem_cons hlt] at hd
    injection hd with ho hr
    have hgi : far.getD i none = o := by rw [List.getD_eq_getElem?_getD, List.getElem?_eq_getElem hlt, ← ho]; rfl
    have hg : ∀ y : Int, decide (y < ((i + 1 : Nat) : Int)) = true ↔ (decide (y < (i : Int)) = true ∨ y = i) := fun y => by
      rw [decide_eq_true_iff, decide_eq_true_iff]; omega
    cases o with
    | none =>
      rw [needBest]
      refine needBest_is s p far hpos r (i + 1) b hr hlt ?_
      rcases h with ⟨rfl, h⟩ | ⟨h0, ⟨z, hz0, hzn, hzg, hzf, hzl⟩, hm⟩
      · refine .inl ⟨rfl, fun x c x0 xn xg xf => ?_⟩
        rcases (hg x).1 xg with e | e
        · exact h x c x0 xn e xf
        · subst e; rw [Int.toNat_natCast, hgi] at xf; cases xf
      · refine .inr ⟨h0, ⟨z, hz0, hzn, (hg z).2 (.inl hzg), hzf, hzl⟩, fun x c x0 xn xg xf xl => ?_⟩
        rcases (hg x).1 xg with e | e
        · exact hm x c x0 xn e xf xl
        · subst e; rw [Int.toNat_natCast, hgi] at xf; cases xf
    | some n =>
      rw [needBest]
      have hn0 : 0 ≤ n := hpos (some n) (by rw [← ho]; exact List.getElem_mem hlt) n rfl
      refine needBest_is s p far hpos r (i + 1) _ hr hlt ?_
      have := best_step (s := s) (p := p) (n := far.length) (far := far) (left := fun z => match z with | .int _ y => !decide (y < (i : Int)) | _ => false) (b := b) (x := (i : Int)) (c := n) (by simpa using h) (by omega) (by omega) (by rw [Int.toNat_natCast]; exact hgi) hn0
      have e : (fun y : Int => !((match (Lit.int .i64 y) with | .int _ y => !decide (y < (i : Int)) | _ => false) && !(Lit.int .i64 y).sameKey (.int .i64 (i : Int)))) = fun y => decide (y < ((i + 1 : Nat) : Int)) := by
        funext y
        rw [key_same, Bool.eq_iff_iff, hg y]
        by_cases h1 : y < (i : Int)
        · simp [h1]
        · by_cases h2 : y = (i : Int)
          · simp [h2]
          · simp [h1, h2]
      rw [e] at this
      exact this

set_option maxHeartbeats 8000000 in
set_option maxRecDepth 100000 in
theorem impl_Hex_need.calls (k : Nat) (a0_0 : Int) (A0_1 : Option Addr) (c0_1 : Nat) (l0_1 : List Int) (a1 : Int) (r : Int) (w : World) (hr0_1 : Kd.C (Kd.int .i64) w A0_1 l0_1.length l0_1) (hc0_1 : l0_1.length ≤ c0_1) (h : impl_Hex_need.f k a0_0 l0_1 a1 = some r) :
    Calls Try.prog 82 #[.agg #[.int .i64 a0_0, .slice A0_1 l0_1.length c0_1], .int .i64 a1] w fun e w' => e = .returned (.int .i64 r) ∧ Below w.heap.size w w' := by
  unfold impl_Hex_need.f at h
  by_cases hv : isHexV a0_0 l0_1 = true
  case neg => rw [if_neg hv] at h; cases h
  rw [if_pos hv] at h
  obtain ⟨far0, hfar, h⟩ := Option.bind_eq_some_iff.mp h
  by_cases hpos : ∀ o ∈ far0, ∀ c, o = some c → 0 ≤ c ∧ c ≤ 4611686018427387904
  case neg => rw [if_neg hpos] at h; cases h
  rw [if_pos hpos] at h
  obtain rfl := Option.some.inj h
  clear h
  obtain ⟨hs1, hs8, hlen, _⟩ := isHexV_cells hv
  have HS := Aside0.mk (show 1 ≤ a0_0 ∧ a0_0 ≤ 8 from ⟨hs1, hs8⟩)
  have HSQ := Aside0.mk hlen
  have HL64 := Aside0.mk (hex_small hv)
  have HFAR := Aside0.mk hfar
  have HPOS := Aside0.mk hpos
  have HR := Aside0.mk hr0_1
  have HC0 := Aside0.mk hc0_1
  have HB0 := Aside0.mk (Below.refl w.heap.size w)
  have hu := Try.underlying28
  have law : Go.Maps.Keyed Try.prog 2 := Go.Maps.int_keyed Try.underlying2
  have zeroE : ∀ W : World, (zeroValue 2).run Try.prog W = .ok (.int .i64 0) W := fun W => by kernel_rfl
  have hmm := @run_makeMap Try.prog
  have HLINE := fun (W : World) (x : Int) (hC : Kd.C (Kd.int .i64) W A0_1 l0_1.length l0_1) => impl_Hex_line.calls a0_0 A0_1 c0_1 l0_1 a1 x (lineV a0_0 a1 x) W hC HC0.out (line_val l0_1 a1 x (by have := HS.out; omega))
  clear hs1 hs8 hlen hfar hpos hr0_1 hc0_1 hv
  go_enter Try.func82, Try.ntmps82
  go_wp2_with (first | ((with_reducible refine gate_dst (N := 2) rfl ?_); refine box_event ?hg (N := 2) ?hd (cs := #[.int .i64 a0_0, .slice A0_1 l0_1.length c0_1]) (t := 28) ?hr ?_; (case hd => rfl); (case hg => rfl); (case hr => first | (go_simp; done) | (go_simp; rfl)); intro g2 hg2 w1 hbox hb; have HG2 := Aside0.mk (show w.heap.size ≤ g2 by omega); have HX2 := Aside0.mk hbox; have HB := Aside0.mk (below_step HB0.out hb); clear hbox hb hg2 HB0) | ((with_reducible refine gate_dst (N := 3) rfl ?_); refine box_event ?hg (N := 3) ?hd (cs := #[.int .i64 a1]) (t := 2) ?hr ?_; (case hd => rfl); (case hg => rfl); (case hr => first | (go_simp; done) | (go_simp; rfl)); intro g3 hg3 w2 hbox hb; have HG3 := Aside0.mk (show w.heap.size ≤ g3 ∧ g2 < g3 by have := below_size HB.out; have := blk_lt HX2.out; omega); have HX3 := Aside0.mk hbox; have nHX2_ := Aside0.mk (blk_below HX2.out hb); have nHB_ := Aside0.mk (below_step HB.out hb); clear HX2 HB hb; have HX2 := nHX2_; have HB := nHB_; clear nHX2_ nHB_; clear hbox hg3) | ((with_reducible refine gate_dst (N := 22) rfl ?_); refine map_event ?hg (N := 22) ?hd 2 (plainElem Try.prog 2) ?hr ?_; (case hd => rfl); (case hg => rfl); (case hr => first | (go_simp; done) | (go_simp; rfl)); intro gm hgm wm hown hb; have HG := Aside0.mk (show g2 ≠ gm ∧ g3 ≠ gm ∧ w.heap.size ≤ gm by have := below_size HB.out; have := blk_lt HX2.out; have := blk_lt HX3.out; omega); have HM := Aside0.mk (hown.mono (Nat.zero_le 64)); have nHX2_ := Aside0.mk (blk_below HX2.out hb); have nHX3_ := Aside0.mk (blk_below HX3.out hb); have nHB_ := Aside0.mk (below_step HB.out hb); clear HX2 HX3 HB hb; have HX2 := nHX2_; have HX3 := nHX3_; have HB := nHB_; clear nHX2_ nHX3_ nHB_; clear hown hgm; have hc20 := (blk_cell HX2.out 0).trans rfl; have hc21 := (blk_cell HX2.out 1).trans rfl; have hc30 := (blk_cell HX3.out 0).trans rfl) | (go_at_call 72; refine (size_run A0_1 c0_1 l0_1 _ (Kd.C_below HR.out HB.out) HC0.out).mono ?_; rintro e w_ ⟨rfl, hd⟩; have hb := hd.below; clear hd; (try clear hc20 hc21 hc30); have nHM_ := Aside0.mk (HM.out.kept (grown_of_below hb none) (by simp)); have nHX2_ := Aside0.mk (blk_below HX2.out hb); have nHX3_ := Aside0.mk (blk_below HX3.out hb); have nHB_ := Aside0.mk (below_step HB.out hb); clear HM HX2 HX3 HB hb; have HM := nHM_; have HX2 := nHX2_; have HX3 := nHX3_; have HB := nHB_; clear nHM_ nHX2_ nHX3_ nHB_; have hc20 := (blk_cell HX2.out 0).trans rfl; have hc21 := (blk_cell HX2.out 1).trans rfl; have hc30 := (blk_cell HX3.out 0).trans rfl))
  have HD0 := Aside0.mk (FarIs.empty l0_1.length)
  rw [← farInit_zero a0_0 l0_1 a1] at HD0
  (try clear hc20 hc21 hc30)
  go_loopg [26] l0_1.length (fun gg s26 wr => ∃ (i : Nat) (D : DataW Unit), i ≤ l0_1.length ∧ l0_1.length - i ≤ gg ∧ s26 = .int .i64 i ∧ Aside0 (FarIs D (farInit a0_0 l0_1 a1 i)) ∧ Aside0 (wr.ownsMap Try.prog 2 (plainElem Try.prog 2) gm 64 D) ∧ Aside0 (wr.heap[g2]? = some (.cells #[.int .i64 a0_0, .slice A0_1 l0_1.length c0_1] 28 (0, 0))) ∧ Aside0 (wr.heap[g3]? = some (.cells #[.int .i64 a1] 2 (0, 0))) ∧ Aside0 (Below w.heap.size w wr))
  case atStart => exact ⟨0, _, Nat.zero_le _, Nat.le_refl _, rfl, HD0, HM, HX2, HX3, HB⟩
  case round =>
    clear HD0 HM HX2 HX3 HB
    obtain ⟨i, D, hi, hgi, rfl, HD, HM, HX2, HX3, HB⟩ := hrel
    have hc20 := (blk_cell HX2.out 0).trans rfl; have hc21 := (blk_cell HX2.out 1).trans rfl; have hc30 := (blk_cell HX3.out 0).trans rfl
    by_cases hlt : i < l0_1.length
    · have q1 := decide_eq_true (show (i : Int) < (l0_1.length : Int) by omega)
      have q2 := decide_eq_true hlt
      have h0 : (0 : Int) ≤ (i : Int) := by omega
      have h1 : (i : Int) < (l0_1.length : Int) := by omega
      have HI := Aside0.mk (And.intro h0 h1)
      have HFS := Aside0.mk (farInit_step a0_0 l0_1 a1 i hlt)
      have HFL := Aside0.mk (show (farInit a0_0 l0_1 a1 i).length ≤ 64 by rw [farInit_len]; exact HL64.out)
      have HFN := Aside0.mk (show ((i : Int)).toNat < (farInit a0_0 l0_1 a1 i).length by rw [farInit_len, Int.toNat_natCast]; exact hlt)
      have HJm := Aside0.mk (show l0_1.length - (i + 1) < gk by omega)
      have HJr := Aside0.mk (show i + 1 ≤ l0_1.length by omega)
      have HJs := Aside0.mk (show wrap64 ((i : Int) + 1) = ((i + 1 : Nat) : Int) from wrap_next hlt (by have := HL64.out; omega))
      clear hi hgi hlt h0 h1
      cases hl0 : (lineV a0_0 a1 (i : Int) == 0) with
      | false =>
        have HNX := Aside0.mk (show farInit a0_0 l0_1 a1 (i + 1) = farInit a0_0 l0_1 a1 i by rw [HFS.out, if_neg (by rw [hl0]; simp)])
        go_wp2_with (first | (go_at_call 117; refine (HLINE _ (i : Int) (Kd.C_below HR.out HB.out)).mono ?_; rintro e w_ ⟨rfl, hb⟩; (try clear hc20 hc21 hc30); have nHM_ := Aside0.mk (HM.out.kept (grown_of_below hb none) (by simp)); have nHX2_ := Aside0.mk (blk_below HX2.out hb); have nHX3_ := Aside0.mk (blk_below HX3.out hb); have nHB_ := Aside0.mk (below_step HB.out hb); clear HM HX2 HX3 HB hb; have HM := nHM_; have HX2 := nHX2_; have HX3 := nHX3_; have HB := nHB_; clear nHM_ nHX2_ nHX3_ nHB_; have hc20 := (blk_cell HX2.out 0).trans rfl; have hc21 := (blk_cell HX2.out 1).trans rfl; have hc30 := (blk_cell HX3.out 0).trans rfl))
        go_roundg (l0_1.length - (i + 1))
        case measure => exact HJm.out
        case rel => exact ⟨i + 1, D, HJr.out, Nat.le_refl _, (by first | rfl | exact congrArg (Value.int .i64) HJs.out), ⟨by rw [HNX.out]; exact HD.out⟩, HM, HX2, HX3, HB⟩
      | true =>
        cases ho : openV l0_1 a1 (i : Int) with
        | false =>
          have HNX := Aside0.mk (show farInit a0_0 l0_1 a1 (i + 1) = farInit a0_0 l0_1 a1 i by rw [HFS.out, if_neg (by rw [ho]; simp)])
          go_wp2_with (first | (go_at_call 117; refine (HLINE _ (i : Int) (Kd.C_below HR.out HB.out)).mono ?_; rintro e w_ ⟨rfl, hb⟩; (try clear hc20 hc21 hc30); have nHM_ := Aside0.mk (HM.out.kept (grown_of_below hb none) (by simp)); have nHX2_ := Aside0.mk (blk_below HX2.out hb); have nHX3_ := Aside0.mk (blk_below HX3.out hb); have nHB_ := Aside0.mk (below_step HB.out hb); clear HM HX2 HX3 HB hb; have HM := nHM_; have HX2 := nHX2_; have HX3 := nHX3_; have HB := nHB_; clear nHM_ nHX2_ nHX3_ nHB_; have hc20 := (blk_cell HX2.out 0).trans rfl; have hc21 := (blk_cell HX2.out 1).trans rfl; have hc30 := (blk_cell HX3.out 0).trans rfl) | (go_at_call 116; refine (needOpen g2 g3 a0_0 A0_1 c0_1 l0_1 a1 _ HX2.out HX3.out (Kd.C_below HR.out HB.out) (i : Int) HI.out.1 HI.out.2).mono ?_; rintro e w_ ⟨rfl, hd⟩; have hb := hd.below; clear hd; (try clear hc20 hc21 hc30); have nHM_ := Aside0.mk (HM.out.kept (grown_of_below hb none) (by simp)); have nHX2_ := Aside0.mk (blk_below HX2.out hb); have nHX3_ := Aside0.mk (blk_below HX3.out hb); have nHB_ := Aside0.mk (below_step HB.out hb); clear HM HX2 HX3 HB hb; have HM := nHM_; have HX2 := nHX2_; have HX3 := nHX3_; have HB := nHB_; clear nHM_ nHX2_ nHX3_ nHB_; have hc20 := (blk_cell HX2.out 0).trans rfl; have hc21 := (blk_cell HX2.out 1).trans rfl; have hc30 := (blk_cell HX3.out 0).trans rfl))
          go_roundg (l0_1.length - (i + 1))
          case measure => exact HJm.out
          case rel => exact ⟨i + 1, D, HJr.out, Nat.le_refl _, (by first | rfl | exact congrArg (Value.int .i64) HJs.out), ⟨by rw [HNX.out]; exact HD.out⟩, HM, HX2, HX3, HB⟩
        | true =>
          have HNX := Aside0.mk (show farInit a0_0 l0_1 a1 (i + 1) = (farInit a0_0 l0_1 a1 i).set ((i : Int)).toNat (some (costV l0_1 (i : Int))) by rw [HFS.out, if_pos (by rw [hl0, ho]; rfl), Int.toNat_natCast])
          go_wp2_with (first | (go_at_call 117; refine (HLINE _ (i : Int) (Kd.C_below HR.out HB.out)).mono ?_; rintro e w_ ⟨rfl, hb⟩; (try clear hc20 hc21 hc30); have nHM_ := Aside0.mk (HM.out.kept (grown_of_below hb none) (by simp)); have nHX2_ := Aside0.mk (blk_below HX2.out hb); have nHX3_ := Aside0.mk (blk_below HX3.out hb); have nHB_ := Aside0.mk (below_step HB.out hb); clear HM HX2 HX3 HB hb; have HM := nHM_; have HX2 := nHX2_; have HX3 := nHX3_; have HB := nHB_; clear nHM_ nHX2_ nHX3_ nHB_; have hc20 := (blk_cell HX2.out 0).trans rfl; have hc21 := (blk_cell HX2.out 1).trans rfl; have hc30 := (blk_cell HX3.out 0).trans rfl) | (go_at_call 116; refine (needOpen g2 g3 a0_0 A0_1 c0_1 l0_1 a1 _ HX2.out HX3.out (Kd.C_below HR.out HB.out) (i : Int) HI.out.1 HI.out.2).mono ?_; rintro e w_ ⟨rfl, hd⟩; have hb := hd.below; clear hd; (try clear hc20 hc21 hc30); have nHM_ := Aside0.mk (HM.out.kept (grown_of_below hb none) (by simp)); have nHX2_ := Aside0.mk (blk_below HX2.out hb); have nHX3_ := Aside0.mk (blk_below HX3.out hb); have nHB_ := Aside0.mk (below_step HB.out hb); clear HM HX2 HX3 HB hb; have HM := nHM_; have HX2 := nHX2_; have HX3 := nHX3_; have HB := nHB_; clear nHM_ nHX2_ nHX3_ nHB_; have hc20 := (blk_cell HX2.out 0).trans rfl; have hc21 := (blk_cell HX2.out 1).trans rfl; have hc30 := (blk_cell HX3.out 0).trans rfl) | (go_at_call 114; refine (needCost g2 a0_0 A0_1 c0_1 l0_1 _ HX2.out (Kd.C_below HR.out HB.out) (i : Int) HI.out.1 HI.out.2).mono ?_; rintro e w_ ⟨rfl, hd⟩; have hb := hd.below; clear hd; (try clear hc20 hc21 hc30); have nHM_ := Aside0.mk (HM.out.kept (grown_of_below hb none) (by simp)); have nHX2_ := Aside0.mk (blk_below HX2.out hb); have nHX3_ := Aside0.mk (blk_below HX3.out hb); have nHB_ := Aside0.mk (below_step HB.out hb); clear HM HX2 HX3 HB hb; have HM := nHM_; have HX2 := nHX2_; have HX3 := nHX3_; have HB := nHB_; clear nHM_ nHX2_ nHX3_ nHB_; have hc20 := (blk_cell HX2.out 0).trans rfl; have hc21 := (blk_cell HX2.out 1).trans rfl; have hc30 := (blk_cell HX3.out 0).trans rfl) | (at_mapUpdate; refine wpList_mapUpdate_own _ rfl _ _ _ 125 rfl 2 2 law Try.underlying125 _ gm 64 _ rfl HM.out (by unfold maxLen; omega) _ _ _ rfl rfl (Go.Maps.keyOf_int_mk Try.underlying2 (wf_num_ (by have := HI.out; have := HL64.out; omega))) _ [] (plainElem_int Try.underlying2 (wf_num_ (by have := costV_small l0_1 (i : Int); omega))) ?_; intro wu hown1 hg1; have nF_ := Aside0.mk (FarIs.put HD.out (costV l0_1 (i : Int)) HI.out.1 (by rw [farInit_len]; exact HI.out.2)); have nM_ := Aside0.mk ((ownsMap_tight hown1).mono (Nat.le_trans (FarIs.count nF_.out) (by simp only [List.length_set]; exact HFL.out))); have n2_ := Aside0.mk (blk_grown HX2.out hg1 (by have := HG.out; intro e_; injection e_; omega)); have n3_ := Aside0.mk (blk_grown HX3.out hg1 (by have := HG.out; intro e_; injection e_; omega)); have nB_ := Aside0.mk (HB.out.grown hg1 (below_size HB.out) (fun j hj => by cases hj; exact HG.out.2.2)); skip; (try clear hc20 hc21 hc30); clear HM HX2 HX3 HB hown1 hg1 HD; have HM := nM_; have HX2 := n2_; have HX3 := n3_; have HB := nB_; have HD := nF_; clear nM_ n2_ n3_ nB_ nF_; have hc20 := (blk_cell HX2.out 0).trans rfl; have hc21 := (blk_cell HX2.out 1).trans rfl; have hc30 := (blk_cell HX3.out 0).trans rfl))
          trace_state
          go_roundg (l0_1.length - (i + 1))
          case measure => exact HJm.out
          case rel => exact ⟨i + 1, _, HJr.out, Nat.le_refl _, (by first | rfl | exact congrArg (Value.int .i64) HJs.out), ⟨by rw [HNX.out]; exact HD.out⟩, HM, HX2, HX3, HB⟩
    · have hie : i = l0_1.length := by omega
      subst hie
      have q1 := decide_eq_false (show ¬ (l0_1.length : Int) < (l0_1.length : Int) by omega)
      clear hi hgi hlt
      have HD2 := Aside0.mk (show ∃ D, FarIs D (farInit a0_0 l0_1 a1 l0_1.length) ∧ wr.ownsMap Try.prog 2 (plainElem Try.prog 2) gm 64 D from ⟨D, HD.out, HM.out⟩)
      have HK0 := Aside0.mk (Nat.le_refl k)
      generalize hf0 : farInit a0_0 l0_1 a1 l0_1.length = fr0 at HFAR HD2
      have HFL0 := Aside0.mk (show fr0.length = l0_1.length by rw [← hf0, farInit_len])
      clear hf0 HD HM
      go_wp2_with fail
      (try clear hc20 hc21 hc30)
      go_loopg [9] k (fun gg s9 wr => ∃ (kf : Nat) (ch : Bool) (far : List (Option Int)), kf ≤ gg ∧ s9 = .bool ch ∧ Aside0 (farLoop a0_0 l0_1 a1 kf ch far = some far0) ∧ Aside0 (far.length = l0_1.length) ∧ Aside0 (∃ D, FarIs D far ∧ wr.ownsMap Try.prog 2 (plainElem Try.prog 2) gm 64 D) ∧ Aside0 (wr.heap[g2]? = some (.cells #[.int .i64 a0_0, .slice A0_1 l0_1.length c0_1] 28 (0, 0))) ∧ Aside0 (wr.heap[g3]? = some (.cells #[.int .i64 a1] 2 (0, 0))) ∧ Aside0 (Below w.heap.size w wr))
      case atStart => exact ⟨k, true, fr0, Nat.le_refl _, rfl, HFAR, HFL0, HD2, HX2, HX3, HB⟩
      case round =>
        clear HD2 HX2 HX3 HB HFAR HFL0 HK0
        obtain ⟨kf, ch, far, hkf, rfl, HFK, HFLn, HDD, HX2, HX3, HB⟩ := hrel
        have hc20 := (blk_cell HX2.out 0).trans rfl; have hc21 := (blk_cell HX2.out 1).trans rfl; have hc30 := (blk_cell HX3.out 0).trans rfl
        cases ch with
        | true =>
          obtain ⟨k1, rfl⟩ : ∃ k1, kf = k1 + 1 := by
            cases kf with
            | zero => have := HFK.out; simp [farLoop] at this
            | succ k1 => exact ⟨k1, rfl⟩
          have hfk := HFK.out
          rw [farLoop, if_pos rfl] at hfk
          obtain ⟨⟨farR, chR⟩, hRR⟩ : ∃ R, farRound a0_0 l0_1 a1 l0_1.length 0 far false = R := ⟨_, rfl⟩
          rw [hRR] at hfk
          have HFK1 := Aside0.mk (show farLoop a0_0 l0_1 a1 k1 chR farR = some far0 from hfk)
          have HRR := Aside0.mk hRR
          have HKF := Aside0.mk hkf
          have HFR := Aside0.mk (show farR.length = l0_1.length by have := farRound_len a0_0 l0_1 a1 l0_1.length 0 far false; rw [HRR.out] at this; exact this.trans HFLn.out)
          clear hfk hRR hkf HFK
          obtain ⟨⟨D, HD, HM⟩⟩ := HDD
          have HD := Aside0.mk HD
          have HM := Aside0.mk HM
          go_wp2_with (first | (go_at_call 72; refine (size_run A0_1 c0_1 l0_1 _ (Kd.C_below HR.out HB.out) HC0.out).mono ?_; rintro e w_ ⟨rfl, hd⟩; have hb := hd.below; clear hd; (try clear hc20 hc21 hc30); have nHM_ := Aside0.mk (HM.out.kept (grown_of_below hb none) (by simp)); have nHX2_ := Aside0.mk (blk_below HX2.out hb); have nHX3_ := Aside0.mk (blk_below HX3.out hb); have nHB_ := Aside0.mk (below_step HB.out hb); clear HM HX2 HX3 HB hb; have HM := nHM_; have HX2 := nHX2_; have HX3 := nHX3_; have HB := nHB_; clear nHM_ nHX2_ nHX3_ nHB_; have hc20 := (blk_cell HX2.out 0).trans rfl; have hc21 := (blk_cell HX2.out 1).trans rfl; have hc30 := (blk_cell HX3.out 0).trans rfl))
          (try clear hc20 hc21 hc30)
          go_loopg [9, 49] l0_1.length (fun gg s9 s49 wr => ∃ (i : Nat) (far1 : List (Option Int)) (ch1 : Bool), i ≤ l0_1.length ∧ l0_1.length - i ≤ gg ∧ s49 = .int .i64 i ∧ s9 = .bool ch1 ∧ Aside0 (farRound a0_0 l0_1 a1 (l0_1.length - i) i far1 ch1 = (farR, chR)) ∧ Aside0 (far1.length = l0_1.length) ∧ Aside0 (∃ D, FarIs D far1 ∧ wr.ownsMap Try.prog 2 (plainElem Try.prog 2) gm 64 D) ∧ Aside0 (wr.heap[g2]? = some (.cells #[.int .i64 a0_0, .slice A0_1 l0_1.length c0_1] 28 (0, 0))) ∧ Aside0 (wr.heap[g3]? = some (.cells #[.int .i64 a1] 2 (0, 0))) ∧ Aside0 (Below w.heap.size w wr))
          case atStart => exact ⟨0, far, false, Nat.zero_le _, Nat.le_refl _, rfl, rfl, ⟨by rw [Nat.sub_zero]; exact HRR.out⟩, HFLn, ⟨D, HD.out, HM.out⟩, HX2, HX3, HB⟩
          case round =>
            clear HD HM HX2 HX3 HB HRR HFLn
            obtain ⟨i, far1, ch1, hi, hgi, rfl, rfl, HRR, HFLn, HDD, HX2, HX3, HB⟩ := hrel
            obtain ⟨⟨D, HD, HM⟩⟩ := HDD
            have HD := Aside0.mk HD
            have HM := Aside0.mk HM
            have hc20 := (blk_cell HX2.out 0).trans rfl; have hc21 := (blk_cell HX2.out 1).trans rfl; have hc30 := (blk_cell HX3.out 0).trans rfl
            by_cases hlt : i < l0_1.length
            · have q1 := decide_eq_true (show (i : Int) < (l0_1.length : Int) by omega)
              have q2 := decide_eq_true hlt
              have HI := Aside0.mk (show (0 : Int) ≤ (i : Int) ∧ (i : Int) < (l0_1.length : Int) by omega)
              have HIN := Aside0.mk hlt
              have HJm := Aside0.mk (show l0_1.length - (i + 1) < gk by omega)
              have HJr := Aside0.mk (show i + 1 ≤ l0_1.length by omega)
              have HJs := Aside0.mk (show wrap64 ((i : Int) + 1) = ((i + 1 : Nat) : Int) from wrap_next hlt (by have := HL64.out; omega))
              have HKL := Aside0.mk (Go.Maps.keyOf_int_mk (P := Try.prog) Try.underlying2 (wf_num_ (n := (i : Int)) (by have := HL64.out; omega)))
              have hrr := HRR.out
              rw [farRound_at a0_0 l0_1 a1 hlt] at hrr
              have HLK := Aside0.mk (HD.out.look (i : Int) (by omega))
              clear hi hgi hlt HRR
              cases hg : far1.getD i none with
              | none =>
                rw [hg] at hrr
                have HRR := Aside0.mk (show farRound a0_0 l0_1 a1 (l0_1.length - (i + 1)) (i + 1) far1 ch1 = (farR, chR) from hrr)
                have HHAS := Aside0.mk (show Go.Maps.has D (.int .i64 (i : Int)) = false by rw [HLK.out, Int.toNat_natCast, hg]; rfl)
                clear hrr hg HLK
                go_wp2_with (first | (at_lookup; refine wpList_lookup_own_ok_int _ rfl _ _ 125 rfl 2 2 .i64 law Try.underlying125 Try.underlying2 (zeroE _) gm 64 D rfl HM.out _ _ rfl HKL.out ?_; intro c1 hat hwc; clear hat hwc; rw [HHAS.out]))
                go_roundg (l0_1.length - (i + 1))
                case measure => exact HJm.out
                case rel => exact ⟨i + 1, far1, ch1, HJr.out, Nat.le_refl _, (by first | rfl | exact congrArg (Value.int .i64) HJs.out), rfl, HRR, HFLn, ⟨D, HD.out, HM.out⟩, HX2, HX3, HB⟩
              | some n =>
                rw [hg] at hrr
                obtain ⟨⟨S1, S2⟩, hS⟩ : ∃ S, farStep l0_1 a1 n (nearV a0_0 (i : Int)) far1 ch1 = S := ⟨_, rfl⟩
                have hrr : farRound a0_0 l0_1 a1 (l0_1.length - (i + 1)) (i + 1) (farStep l0_1 a1 n (nearV a0_0 (i : Int)) far1 ch1).1 (farStep l0_1 a1 n (nearV a0_0 (i : Int)) far1 ch1).2 = (farR, chR) := hrr
                rw [hS] at hrr
                have HRR := Aside0.mk (show farRound a0_0 l0_1 a1 (l0_1.length - (i + 1)) (i + 1) S1 S2 = (farR, chR) from hrr)
                have HSL := Aside0.mk (show S1.length = l0_1.length by have := farStep_len l0_1 a1 n (nearV a0_0 (i : Int)) far1 ch1; rw [hS] at this; exact this.trans HFLn.out)
                have HSS := Aside0.mk hS
                have HHAS := Aside0.mk (show Go.Maps.has D (.int .i64 (i : Int)) = true by rw [HLK.out, Int.toNat_natCast, hg]; rfl)
                have HVAL := Aside0.mk (fun (c : Int) (hat : D.atKey (.int .i64 (i : Int)) (.lit (.int .i64 0)) = .lit (.int .i64 c)) => HD.out.val (x := (i : Int)) (m := n) (by omega) (by rw [Int.toNat_natCast]; exact hg) hat)
                have HNF := Aside0.mk (show impl_near.f a0_0 (i : Int) = some (nearV a0_0 (i : Int)) by unfold impl_near.f; rw [if_neg (by have := HS.out; omega)])
                have HNEAR := Aside0.mk (near_in_ HS.out HSQ.out HIN.out)
                generalize nearV a0_0 (i : Int) = ys at HNF HSS HNEAR
                have HYL := Aside0.mk (show ys.length ≤ 100 from HNEAR.out.1)
                clear hrr hg HLK hS
                go_wp2_with (first | (at_lookup; refine wpList_lookup_own_ok_int _ rfl _ _ 125 rfl 2 2 .i64 law Try.underlying125 Try.underlying2 (zeroE _) gm 64 D rfl HM.out _ _ rfl HKL.out ?_; intro c1 hat hwc; obtain rfl := (HVAL.out c1 hat).symm; clear hat hwc; rw [HHAS.out]) | (go_at_call 77; refine (impl_near.calls a0_0 (i : Int) ys _ HNF.out).mono ?_; rintro e w_ ⟨v63, rfl, ho, hb⟩; obtain ⟨A63, c63, e63⟩ := Kd.R_slice ho; subst e63; have HN := Aside0.mk (Kd.R_lower (Kd.R_mono (ok' := fun k => k ≠ gm) (Kd.R_bound ho) (fun k hk => by have := hk.2.1; have := HM.out.lt; omega)) (below_size HB.out)); clear ho; (try clear hc20 hc21 hc30); have nHM_ := Aside0.mk (HM.out.kept (grown_of_below hb none) (by simp)); have nHX2_ := Aside0.mk (blk_below HX2.out hb); have nHX3_ := Aside0.mk (blk_below HX3.out hb); have nHB_ := Aside0.mk (below_step HB.out hb); clear HM HX2 HX3 HB hb; have HM := nHM_; have HX2 := nHX2_; have HX3 := nHX3_; have HB := nHB_; clear nHM_ nHX2_ nHX3_ nHB_; have hc20 := (blk_cell HX2.out 0).trans rfl; have hc21 := (blk_cell HX2.out 1).trans rfl; have hc30 := (blk_cell HX3.out 0).trans rfl))
                (try clear hc20 hc21 hc30)
                go_loopg [9, 65] ys.length (fun gg s9 s65 wr => ∃ (j : Nat) (far2 : List (Option Int)) (ch2 : Bool), j ≤ ys.length ∧ ys.length - j ≤ gg ∧ s65 = .int .i64 j ∧ s9 = .bool ch2 ∧ Aside0 (farStep l0_1 a1 n (ys.drop j) far2 ch2 = (S1, S2)) ∧ Aside0 (far2.length = l0_1.length) ∧ Aside0 (∃ D, FarIs D far2 ∧ wr.ownsMap Try.prog 2 (plainElem Try.prog 2) gm 64 D) ∧ Aside0 (wr.heap[g2]? = some (.cells #[.int .i64 a0_0, .slice A0_1 l0_1.length c0_1] 28 (0, 0))) ∧ Aside0 (wr.heap[g3]? = some (.cells #[.int .i64 a1] 2 (0, 0))) ∧ Aside0 (Kd.R (Kd.int .i64) 2 wr w.heap.size (fun k => k ≠ gm) (.slice A63 ys.length c63) ys) ∧ Aside0 (Below w.heap.size w wr))
                case atStart => exact ⟨0, far1, ch1, Nat.zero_le _, Nat.le_refl _, rfl, rfl, HSS, HFLn, ⟨D, HD.out, HM.out⟩, HX2, HX3, HN, HB⟩
                case round =>
                  clear HD HM HX2 HX3 HB HN HSS HFLn
                  obtain ⟨j, far2, ch2, hj, hgj, rfl, rfl, HSS, HFLn, HDD, HX2, HX3, HN, HB⟩ := hrel
                  obtain ⟨⟨D, HD, HM⟩⟩ := HDD
                  have HD := Aside0.mk HD
                  have HM := Aside0.mk HM
                  have hc20 := (blk_cell HX2.out 0).trans rfl; have hc21 := (blk_cell HX2.out 1).trans rfl; have hc30 := (blk_cell HX3.out 0).trans rfl
                  by_cases hlt : j < ys.length
                  · have hss := HSS.out
                    rw [List.drop_eq_getElem_cons hlt, farStep] at hss
                    obtain ⟨adz, ez, hxz⟩ := Kd.at_int (Kd.R_reads' HN.out).2.2 (j : Int) (by omega) (by omega)
                    subst ez
                    rw [Int.toNat_natCast, rd_get ys j hlt] at hxz
                    have hzb := HNEAR.out.2 ys[j] (List.getElem_mem hlt)
                    generalize ys[j] = z at hss hxz hzb
                    have HZ := Aside0.mk hzb
                    have q3 := decide_eq_true (show (j : Int) < (ys.length : Int) by omega)
                    have q4 := decide_eq_true hlt
                    have q5 := eq_true (show (j : Int) < (ys.length : Int) by omega)
                    have q6 := eq_true (show (0 : Int) ≤ (j : Int) by omega)
                    have q7 := eq_true hlt
                    have HLm := Aside0.mk (show ys.length - (j + 1) < gk by omega)
                    have HLr := Aside0.mk (show j + 1 ≤ ys.length by omega)
                    have HLs := Aside0.mk (show wrap64 ((j : Int) + 1) = ((j + 1 : Nat) : Int) from wrap_next hlt (by have := HYL.out; omega))
                    have HKL := Aside0.mk (Go.Maps.keyOf_int_mk (P := Try.prog) Try.underlying2 (wf_num_ (n := z) (by have := HL64.out; omega)))
                    have HFL := Aside0.mk (show far2.length ≤ 64 by rw [HFLn.out]; exact HL64.out)
                    have HLK := Aside0.mk (HD.out.look z hzb.1)
                    clear hj hgj hlt hzb HSS
                    cases ho : openV l0_1 a1 z with
                    | false =>
                      have HSS := Aside0.mk (show farStep l0_1 a1 n (ys.drop (j + 1)) far2 ch2 = (S1, S2) by rw [← hss, if_neg (by unfold betterV; rw [ho]; simp)])
                      obtain ⟨bm, hbm⟩ : ∃ bm, Go.Maps.has D (.int .i64 z) = bm := ⟨_, rfl⟩
                      have HHAS := Aside0.mk hbm
                      clear hss hbm HLK
                      go_wp2_with (first | (at_lookup; refine wpList_lookup_own_ok_int _ rfl _ _ 125 rfl 2 2 .i64 law Try.underlying125 Try.underlying2 (zeroE _) gm 64 D rfl HM.out _ _ rfl HKL.out ?_; intro c1 hat hwc; clear hat hwc; rw [HHAS.out]) | (go_at_call 116; refine (needOpen g2 g3 a0_0 A0_1 c0_1 l0_1 a1 _ HX2.out HX3.out (Kd.C_below HR.out HB.out) z HZ.out.1 HZ.out.2).mono ?_; rintro e w_ ⟨rfl, hd⟩; have hb := hd.below; clear hd; (try clear hc20 hc21 hc30); have nHM_ := Aside0.mk (HM.out.kept (grown_of_below hb none) (by simp)); have nHX2_ := Aside0.mk (blk_below HX2.out hb); have nHX3_ := Aside0.mk (blk_below HX3.out hb); have nHB_ := Aside0.mk (below_step HB.out hb); have nHN_ := Aside0.mk (Kd.R_below HN.out hb); clear HM HX2 HX3 HB HN hb; have HM := nHM_; have HX2 := nHX2_; have HX3 := nHX3_; have HB := nHB_; have HN := nHN_; clear nHM_ nHX2_ nHX3_ nHB_ nHN_; have hc20 := (blk_cell HX2.out 0).trans rfl; have hc21 := (blk_cell HX2.out 1).trans rfl; have hc30 := (blk_cell HX3.out 0).trans rfl))
                      go_roundg (ys.length - (j + 1))
                      case measure => exact HLm.out
                      case rel => exact ⟨j + 1, far2, ch2, HLr.out, Nat.le_refl _, (by first | rfl | exact congrArg (Value.int .i64) HLs.out), rfl, HSS, HFLn, ⟨D, HD.out, HM.out⟩, HX2, HX3, HN, HB⟩
                    | true =>
                      cases hm : far2.getD z.toNat none with
                      | none =>
                        have HSS := Aside0.mk (show farStep l0_1 a1 n (ys.drop (j + 1)) (far2.set z.toNat (some (wrap64 (n + costV l0_1 z)))) true = (S1, S2) by rw [← hss, if_pos (by unfold betterV; rw [ho, hm]; rfl)])
                        have HHAS := Aside0.mk (show Go.Maps.has D (.int .i64 z) = false by rw [HLK.out, hm]; rfl)
                        clear hss hm HLK
                        go_wp2_with (first | (at_lookup; refine wpList_lookup_own_ok_int _ rfl _ _ 125 rfl 2 2 .i64 law Try.underlying125 Try.underlying2 (zeroE _) gm 64 D rfl HM.out _ _ rfl HKL.out ?_; intro c1 hat hwc; clear hat hwc; rw [HHAS.out]) | (go_at_call 116; refine (needOpen g2 g3 a0_0 A0_1 c0_1 l0_1 a1 _ HX2.out HX3.out (Kd.C_below HR.out HB.out) z HZ.out.1 HZ.out.2).mono ?_; rintro e w_ ⟨rfl, hd⟩; have hb := hd.below; clear hd; (try clear hc20 hc21 hc30); have nHM_ := Aside0.mk (HM.out.kept (grown_of_below hb none) (by simp)); have nHX2_ := Aside0.mk (blk_below HX2.out hb); have nHX3_ := Aside0.mk (blk_below HX3.out hb); have nHB_ := Aside0.mk (below_step HB.out hb); have nHN_ := Aside0.mk (Kd.R_below HN.out hb); clear HM HX2 HX3 HB HN hb; have HM := nHM_; have HX2 := nHX2_; have HX3 := nHX3_; have HB := nHB_; have HN := nHN_; clear nHM_ nHX2_ nHX3_ nHB_ nHN_; have hc20 := (blk_cell HX2.out 0).trans rfl; have hc21 := (blk_cell HX2.out 1).trans rfl; have hc30 := (blk_cell HX3.out 0).trans rfl) | (go_at_call 114; refine (needCost g2 a0_0 A0_1 c0_1 l0_1 _ HX2.out (Kd.C_below HR.out HB.out) z HZ.out.1 HZ.out.2).mono ?_; rintro e w_ ⟨rfl, hd⟩; have hb := hd.below; clear hd; (try clear hc20 hc21 hc30); have nHM_ := Aside0.mk (HM.out.kept (grown_of_below hb none) (by simp)); have nHX2_ := Aside0.mk (blk_below HX2.out hb); have nHX3_ := Aside0.mk (blk_below HX3.out hb); have nHB_ := Aside0.mk (below_step HB.out hb); have nHN_ := Aside0.mk (Kd.R_below HN.out hb); clear HM HX2 HX3 HB HN hb; have HM := nHM_; have HX2 := nHX2_; have HX3 := nHX3_; have HB := nHB_; have HN := nHN_; clear nHM_ nHX2_ nHX3_ nHB_ nHN_; have hc20 := (blk_cell HX2.out 0).trans rfl; have hc21 := (blk_cell HX2.out 1).trans rfl; have hc30 := (blk_cell HX3.out 0).trans rfl) | (at_mapUpdate; refine wpList_mapUpdate_own _ rfl _ _ _ 125 rfl 2 2 law Try.underlying125 _ gm 64 _ rfl HM.out (by unfold maxLen; omega) _ _ _ rfl rfl (Go.Maps.keyOf_int_mk Try.underlying2 (wf_num_ (by have := HZ.out; have := HL64.out; omega))) _ [] (plainElem_int Try.underlying2 (wrap64_wf _)) ?_; intro wu hown1 hg1; have nF_ := Aside0.mk (FarIs.put HD.out (wrap64 (n + costV l0_1 z)) HZ.out.1 (by rw [HFLn.out]; exact HZ.out.2)); have nM_ := Aside0.mk ((ownsMap_tight hown1).mono (Nat.le_trans (FarIs.count nF_.out) (by simp only [List.length_set]; exact HFL.out))); have n2_ := Aside0.mk (blk_grown HX2.out hg1 (by have := HG.out; intro e_; injection e_; omega)); have n3_ := Aside0.mk (blk_grown HX3.out hg1 (by have := HG.out; intro e_; injection e_; omega)); have nB_ := Aside0.mk (HB.out.grown hg1 (below_size HB.out) (fun j hj => by cases hj; exact HG.out.2.2)); have nN_ := Aside0.mk (Kd.R_grown HN.out hg1 (fun k hk e_ => hk (by injection e_))); clear HN; have HN := nN_; clear nN_; (try clear hc20 hc21 hc30); clear HM HX2 HX3 HB hown1 hg1 HD; have HM := nM_; have HX2 := n2_; have HX3 := n3_; have HB := nB_; have HD := nF_; clear nM_ n2_ n3_ nB_ nF_; have hc20 := (blk_cell HX2.out 0).trans rfl; have hc21 := (blk_cell HX2.out 1).trans rfl; have hc30 := (blk_cell HX3.out 0).trans rfl))
                        go_roundg (ys.length - (j + 1))
                        case measure => exact HLm.out
                        case rel => exact ⟨j + 1, _, true, HLr.out, Nat.le_refl _, (by first | rfl | exact congrArg (Value.int .i64) HLs.out), rfl, HSS, ⟨by rw [List.length_set]; exact HFLn.out⟩, ⟨_, HD.out, HM.out⟩, HX2, HX3, HN, HB⟩
                      | some m =>
                        have HHAS := Aside0.mk (show Go.Maps.has D (.int .i64 z) = true by rw [HLK.out, hm]; rfl)
                        have HVAL := Aside0.mk (fun (c : Int) (hat : D.atKey (.int .i64 z) (.lit (.int .i64 0)) = .lit (.int .i64 c)) => HD.out.val (x := z) (m := m) HZ.out.1 hm hat)
                        by_cases hb : wrap64 (n + costV l0_1 z) < m
                        · have HSS := Aside0.mk (show farStep l0_1 a1 n (ys.drop (j + 1)) (far2.set z.toNat (some (wrap64 (n + costV l0_1 z)))) true = (S1, S2) by rw [← hss, if_pos (by unfold betterV; rw [ho, hm]; show (true && decide (wrap64 (n + costV l0_1 z) < m)) = true; rw [decide_eq_true hb]; rfl)])
                          have q8 := decide_eq_true hb
                          clear hss hm HLK hb
                          go_wp2_with (first | (at_lookup; refine wpList_lookup_own_ok_int _ rfl _ _ 125 rfl 2 2 .i64 law Try.underlying125 Try.underlying2 (zeroE _) gm 64 D rfl HM.out _ _ rfl HKL.out ?_; intro c1 hat hwc; obtain rfl := (HVAL.out c1 hat).symm; clear hat hwc; rw [HHAS.out]) | (go_at_call 116; refine (needOpen g2 g3 a0_0 A0_1 c0_1 l0_1 a1 _ HX2.out HX3.out (Kd.C_below HR.out HB.out) z HZ.out.1 HZ.out.2).mono ?_; rintro e w_ ⟨rfl, hd⟩; have hb := hd.below; clear hd; (try clear hc20 hc21 hc30); have nHM_ := Aside0.mk (HM.out.kept (grown_of_below hb none) (by simp)); have nHX2_ := Aside0.mk (blk_below HX2.out hb); have nHX3_ := Aside0.mk (blk_below HX3.out hb); have nHB_ := Aside0.mk (below_step HB.out hb); have nHN_ := Aside0.mk (Kd.R_below HN.out hb); clear HM HX2 HX3 HB HN hb; have HM := nHM_; have HX2 := nHX2_; have HX3 := nHX3_; have HB := nHB_; have HN := nHN_; clear nHM_ nHX2_ nHX3_ nHB_ nHN_; have hc20 := (blk_cell HX2.out 0).trans rfl; have hc21 := (blk_cell HX2.out 1).trans rfl; have hc30 := (blk_cell HX3.out 0).trans rfl) | (go_at_call 114; refine (needCost g2 a0_0 A0_1 c0_1 l0_1 _ HX2.out (Kd.C_below HR.out HB.out) z HZ.out.1 HZ.out.2).mono ?_; rintro e w_ ⟨rfl, hd⟩; have hb := hd.below; clear hd; (try clear hc20 hc21 hc30); have nHM_ := Aside0.mk (HM.out.kept (grown_of_below hb none) (by simp)); have nHX2_ := Aside0.mk (blk_below HX2.out hb); have nHX3_ := Aside0.mk (blk_below HX3.out hb); have nHB_ := Aside0.mk (below_step HB.out hb); have nHN_ := Aside0.mk (Kd.R_below HN.out hb); clear HM HX2 HX3 HB HN hb; have HM := nHM_; have HX2 := nHX2_; have HX3 := nHX3_; have HB := nHB_; have HN := nHN_; clear nHM_ nHX2_ nHX3_ nHB_ nHN_; have hc20 := (blk_cell HX2.out 0).trans rfl; have hc21 := (blk_cell HX2.out 1).trans rfl; have hc30 := (blk_cell HX3.out 0).trans rfl) | (at_mapUpdate; refine wpList_mapUpdate_own _ rfl _ _ _ 125 rfl 2 2 law Try.underlying125 _ gm 64 _ rfl HM.out (by unfold maxLen; omega) _ _ _ rfl rfl (Go.Maps.keyOf_int_mk Try.underlying2 (wf_num_ (by have := HZ.out; have := HL64.out; omega))) _ [] (plainElem_int Try.underlying2 (wrap64_wf _)) ?_; intro wu hown1 hg1; have nF_ := Aside0.mk (FarIs.put HD.out (wrap64 (n + costV l0_1 z)) HZ.out.1 (by rw [HFLn.out]; exact HZ.out.2)); have nM_ := Aside0.mk ((ownsMap_tight hown1).mono (Nat.le_trans (FarIs.count nF_.out) (by simp only [List.length_set]; exact HFL.out))); have n2_ := Aside0.mk (blk_grown HX2.out hg1 (by have := HG.out; intro e_; injection e_; omega)); have n3_ := Aside0.mk (blk_grown HX3.out hg1 (by have := HG.out; intro e_; injection e_; omega)); have nB_ := Aside0.mk (HB.out.grown hg1 (below_size HB.out) (fun j hj => by cases hj; exact HG.out.2.2)); have nN_ := Aside0.mk (Kd.R_grown HN.out hg1 (fun k hk e_ => hk (by injection e_))); clear HN; have HN := nN_; clear nN_; (try clear hc20 hc21 hc30); clear HM HX2 HX3 HB hown1 hg1 HD; have HM := nM_; have HX2 := n2_; have HX3 := n3_; have HB := nB_; have HD := nF_; clear nM_ n2_ n3_ nB_ nF_; have hc20 := (blk_cell HX2.out 0).trans rfl; have hc21 := (blk_cell HX2.out 1).trans rfl; have hc30 := (blk_cell HX3.out 0).trans rfl))
                          go_roundg (ys.length - (j + 1))
                          case measure => exact HLm.out
                          case rel => exact ⟨j + 1, _, true, HLr.out, Nat.le_refl _, (by first | rfl | exact congrArg (Value.int .i64) HLs.out), rfl, HSS, ⟨by rw [List.length_set]; exact HFLn.out⟩, ⟨_, HD.out, HM.out⟩, HX2, HX3, HN, HB⟩
                        · have HSS := Aside0.mk (show farStep l0_1 a1 n (ys.drop (j + 1)) far2 ch2 = (S1, S2) by rw [← hss, if_neg (by unfold betterV; rw [ho, hm]; show ¬ (true && decide (wrap64 (n + costV l0_1 z) < m)) = true; rw [decide_eq_false hb]; simp)])
                          have q8 := decide_eq_false hb
                          clear hss hm HLK hb
                          go_wp2_with (first | (at_lookup; refine wpList_lookup_own_ok_int _ rfl _ _ 125 rfl 2 2 .i64 law Try.underlying125 Try.underlying2 (zeroE _) gm 64 D rfl HM.out _ _ rfl HKL.out ?_; intro c1 hat hwc; obtain rfl := (HVAL.out c1 hat).symm; clear hat hwc; rw [HHAS.out]) | (go_at_call 116; refine (needOpen g2 g3 a0_0 A0_1 c0_1 l0_1 a1 _ HX2.out HX3.out (Kd.C_below HR.out HB.out) z HZ.out.1 HZ.out.2).mono ?_; rintro e w_ ⟨rfl, hd⟩; have hb := hd.below; clear hd; (try clear hc20 hc21 hc30); have nHM_ := Aside0.mk (HM.out.kept (grown_of_below hb none) (by simp)); have nHX2_ := Aside0.mk (blk_below HX2.out hb); have nHX3_ := Aside0.mk (blk_below HX3.out hb); have nHB_ := Aside0.mk (below_step HB.out hb); have nHN_ := Aside0.mk (Kd.R_below HN.out hb); clear HM HX2 HX3 HB HN hb; have HM := nHM_; have HX2 := nHX2_; have HX3 := nHX3_; have HB := nHB_; have HN := nHN_; clear nHM_ nHX2_ nHX3_ nHB_ nHN_; have hc20 := (blk_cell HX2.out 0).trans rfl; have hc21 := (blk_cell HX2.out 1).trans rfl; have hc30 := (blk_cell HX3.out 0).trans rfl) | (go_at_call 114; refine (needCost g2 a0_0 A0_1 c0_1 l0_1 _ HX2.out (Kd.C_below HR.out HB.out) z HZ.out.1 HZ.out.2).mono ?_; rintro e w_ ⟨rfl, hd⟩; have hb := hd.below; clear hd; (try clear hc20 hc21 hc30); have nHM_ := Aside0.mk (HM.out.kept (grown_of_below hb none) (by simp)); have nHX2_ := Aside0.mk (blk_below HX2.out hb); have nHX3_ := Aside0.mk (blk_below HX3.out hb); have nHB_ := Aside0.mk (below_step HB.out hb); have nHN_ := Aside0.mk (Kd.R_below HN.out hb); clear HM HX2 HX3 HB HN hb; have HM := nHM_; have HX2 := nHX2_; have HX3 := nHX3_; have HB := nHB_; have HN := nHN_; clear nHM_ nHX2_ nHX3_ nHB_ nHN_; have hc20 := (blk_cell HX2.out 0).trans rfl; have hc21 := (blk_cell HX2.out 1).trans rfl; have hc30 := (blk_cell HX3.out 0).trans rfl))
                          go_roundg (ys.length - (j + 1))
                          case measure => exact HLm.out
                          case rel => exact ⟨j + 1, far2, ch2, HLr.out, Nat.le_refl _, (by first | rfl | exact congrArg (Value.int .i64) HLs.out), rfl, HSS, HFLn, ⟨D, HD.out, HM.out⟩, HX2, HX3, HN, HB⟩
                  · have hje : j = ys.length := by omega
                    subst hje
                    have q3 := decide_eq_false (show ¬ (ys.length : Int) < (ys.length : Int) by omega)
                    have hend := HSS.out
                    rw [List.drop_eq_nil_of_le (Nat.le_refl _), farStep] at hend
                    injection hend with e1 e2
                    subst e1
                    subst e2
                    clear hj hgj hlt
                    go_wp2_with fail
                    go_roundg (l0_1.length - (i + 1))
                    case measure => exact HJm.out
                    case rel => exact ⟨i + 1, _, _, HJr.out, Nat.le_refl _, (by first | rfl | exact congrArg (Value.int .i64) HJs.out), rfl, HRR, HSL, ⟨D, HD.out, HM.out⟩, HX2, HX3, HB⟩
            · have hie : i = l0_1.length := by omega
              subst hie
              have q1 := decide_eq_false (show ¬ (l0_1.length : Int) < (l0_1.length : Int) by omega)
              have hend := HRR.out
              rw [Nat.sub_self, farRound] at hend
              injection hend with e1 e2
              subst e1
              subst e2
              clear hi hgi hlt
              go_wp2_with fail
              go_roundg k1
              case measure => have := HKF.out; omega
              case rel => exact ⟨k1, _, _, Nat.le_refl _, rfl, HFK1, HFR, ⟨D, HD.out, HM.out⟩, HX2, HX3, HB⟩
        | false =>
          have hend := HFK.out
          have hend : far = far0 := by
            cases kf with
            | zero => simp [farLoop] at hend
            | succ k1 => rw [farLoop, if_neg (by simp)] at hend; exact Option.some.inj hend
          subst hend
          obtain ⟨⟨D, HD, HM⟩⟩ := HDD
          have HD := Aside0.mk HD
          have HM := Aside0.mk HM
          clear hkf HFK
          have HBS := Aside0.mk (best_start (s := a0_0) (p := a1) (n := far.length) HD.out)
          have HCT := Aside0.mk HD.out.count
          go_wp2_with (first | (at_range; refine wpList_range_own _ rfl _ 125 rfl 2 2 law Try.underlying125 _ gm 64 D rfl HM.out ?_; intro w0_ hrg0 hg0 hs0))
          go_frame
          have HGr := Aside0.mk (show g2 < wr.heap.size ∧ g3 < wr.heap.size ∧ w.heap.size ≤ wr.heap.size by have := blk_lt HX2.out; have := blk_lt HX3.out; have := below_size HB.out; omega)
          have n2_ := Aside0.mk (blk_grown HX2.out hg0 (by simp))
          have n3_ := Aside0.mk (blk_grown HX3.out hg0 (by simp))
          have nB_ := Aside0.mk (HB.out.grown hg0 (below_size HB.out) (fun j hj => by cases hj))
          have HRG := Aside0.mk hrg0
          (try clear hc20 hc21 hc30)
          clear HX2 HX3 HB HM hrg0 hg0 hs0
          generalize wr.heap.size = r_ at HGr HRG ⊢
          go_loopg [17] far.length (fun gg s17 wr => ∃ (left : Lit → Bool) (cnt : Nat) (b : Int), cnt ≤ gg ∧ s17 = .int .i64 b ∧ Aside0 (IsBest a0_0 a1 far.length far (fun x => !left (.int .i64 x)) b) ∧ Aside0 (wr.ranges Try.prog 2 (plainElem Try.prog 2) gm r_ 64 D left cnt) ∧ Aside0 (wr.heap[g2]? = some (.cells #[.int .i64 a0_0, .slice A0_1 l0_1.length c0_1] 28 (0, 0))) ∧ Aside0 (wr.heap[g3]? = some (.cells #[.int .i64 a1] 2 (0, 0))) ∧ Aside0 (Below w.heap.size w wr))
          case atStart => exact ⟨_, _, -1, HCT.out, rfl, HBS, HRG, n2_, n3_, nB_⟩
          case round =>
            clear HBS HCT HRG n2_ n3_ nB_
            obtain ⟨left, cnt, b, hcn, rfl, HBS, HRG, HX2, HX3, HB⟩ := hrel
            go_wp2_with (first | (at_next; refine wpList_next_ranges_ii _ rfl _ rfl 2 2 .i64 .i64 law Try.underlying2 Try.underlying2 gm r_ 64 D left cnt rfl HRG.out ?_ ?_))
            · intro hc0 hl0
              have HV := Aside0.mk (show needBest a0_0 a1 far 0 (-1) = b from by
                have h_ := HBS.out
                have e_ : (fun x : Int => !left (.int .i64 x)) = fun _ => true := by funext x; rw [hl0]; rfl
                rw [e_] at h_
                exact (needBest_is a0_0 a1 far (fun o ho c hc => (HPOS.out o ho c hc).1) far 0 (-1) rfl (Nat.zero_le _) (.inl ⟨rfl, fun x c h1 _ hg _ => by simp at hg; omega⟩)).unique h_)
              have hv := HV.out
              subst hv
              clear HV
              go_wp2_with fail
              go_ret
              exact ⟨rfl, HB.out⟩
            · intro x c w1 cnt1 hwx hwc hlx hat hrg1 hlt hg1 hs1 hen
              obtain ⟨hx0, hxl, hxf⟩ := HD.out.entry hat
              have HBN := Aside0.mk (best_step HBS.out hx0 (by omega) hxf (HPOS.out (some c) (mem_getD_ hxf) c rfl).1)
              have n2_ := Aside0.mk (blk_grown HX2.out hg1 (by have := HGr.out; intro e_; injection e_; omega))
              have n3_ := Aside0.mk (blk_grown HX3.out hg1 (by have := HGr.out; intro e_; injection e_; omega))
              have nB_ := Aside0.mk (HB.out.grown hg1 (below_size HB.out) (fun j hj => by cases hj; exact HGr.out.2.2))
              have HCN := Aside0.mk (show cnt1 < gk by omega)
              have HSW := Aside0.mk (show wrap64 (a0_0 - 1) = a0_0 - 1 by have := HS.out; unfold wrap64; omega)
              clear HX2 HX3 HB HRG HBS hg1 hs1 hat hlx hwx hwc hlt hcn hx0 hxl hxf
              have HX2 := n2_
              have HX3 := n3_
              have HB := nB_
              have HRG := Aside0.mk hrg1
              clear n2_ n3_ nB_ hrg1
              have hc20 := (blk_cell HX2.out 0).trans rfl; have hc21 := (blk_cell HX2.out 1).trans rfl; have hc30 := (blk_cell HX3.out 0).trans rfl
              cases hl : (lineV a0_0 a1 x == wrap64 (a0_0 - 1)) with
              | false =>
                have HBE := Aside0.mk (show IsBest a0_0 a1 far.length far (fun y => !(left (.int .i64 y) && !(Lit.int .i64 y).sameKey (.int .i64 x))) b by have h_ := HBN.out; rw [if_neg (fun h => by have := beq_eq_false_iff_ne.1 hl; rw [HSW.out] at this; exact this h.1)] at h_; exact h_)
                go_wp2_with fail
                have d2_ := Aside0.mk (blk_drew HX2.out)
                have d3_ := Aside0.mk (blk_drew HX3.out)
                have dR_ := Aside0.mk (HRG.out.kept (grown_of_below (below_drew1 (Below.refl _ w1)) none) (by simp) (by simp))
                have dB_ := Aside0.mk (below_drew1 HB.out)
                clear HX2 HX3 HRG HB hc20 hc21 hc30 hen HBN
                refine start_ (n := 17) (S := fun w' => w'.cell? ⟨g2, 0, none⟩ = some (.int .i64 a0_0) ∧ w'.cell? ⟨g2, 1, none⟩ = some (.slice A0_1 l0_1.length c0_1) ∧ w'.cell? ⟨g3, 0, none⟩ = some (.int .i64 a1)) (ds := []) #[false, false, false, false, false, false, false, false, false, false, false, false, false, false, false, false, false] (by kernel_rfl) rfl rfl ⟨(blk_cell d2_.out 0).trans rfl, (blk_cell d2_.out 1).trans rfl, (blk_cell d3_.out 0).trans rfl⟩ (fun hHeld => ?_)
                refine with_tabW need_tab31 need_bits31 (fun HT_ HW_ => ?_)
                generalize hq_ : w1.drew = wd_ at d2_ d3_ dR_ dB_ hHeld ⊢
                clear hq_
                refine take_ (i := 0) (N := some 107) (v := ?_) (a' := ?_) (flg_ 17 1) rfl rfl (take_ofW HT_.out HW_.out (by kernel_rfl)) (fun _ _ _ h => h) (Or.inl ⟨by rfl, ?_⟩) hHeld ?_ ?_
                rotate_left
                · rintro w' ⟨s0_, s1_, s2_⟩
                  go_simp
                  with_reducible rfl
                rotate_left
                · simp only [Act.put, sz_, s0_, s1_, i64_w, i32_w]
                  rfl
                refine take_ (i := 1) (N := some 108) (v := ?_) (a' := ?_) (flg_ 17 3) rfl rfl (take_ofW HT_.out HW_.out (by kernel_rfl)) (fun _ _ _ h => h) (Or.inl ⟨by rfl, ?_⟩) hHeld ?_ ?_
                rotate_left
                · rintro w' ⟨s0_, s1_, s2_⟩
                  go_simp
                  with_reducible rfl
                rotate_left
                · simp only [Act.put, sz_, s0_, s1_, i64_w, i32_w]
                  rfl
                refine pure_ (i := 2) (N := some 109) (v := ?_) (a' := ?_) (flg_ 17 7) rfl rfl (any_of HT_.out (by kernel_rfl)) (fun _ _ _ h => h) (Or.inl ⟨by rfl, ?_⟩) ?_ ?_
                rotate_left
                · intro w'
                  go_simp
                  with_reducible rfl
                rotate_left
                · simp only [Act.put, sz_, s0_, s1_, i64_w, i32_w]
                  rfl
                refine pure_ (i := 4) (N := some 111) (v := ?_) (a' := ?_) (flg_ 17 23) rfl rfl (any_of HT_.out (by kernel_rfl)) (fun _ _ _ h => h) (Or.inl ⟨by rfl, ?_⟩) ?_ ?_
                rotate_left
                · intro w'
                  go_simp
                  with_reducible rfl
                rotate_left
                · simp only [Act.put, sz_, s0_, s1_, i64_w, i32_w]
                  rfl
                refine take_ (i := 5) (N := some 112) (v := ?_) (a' := ?_) (flg_ 17 55) rfl rfl (take_ofW HT_.out HW_.out (by kernel_rfl)) (fun _ _ _ h => h) (Or.inl ⟨by rfl, ?_⟩) hHeld ?_ ?_
                rotate_left
                · rintro w' ⟨s0_, s1_, s2_⟩
                  go_simp
                  with_reducible rfl
                rotate_left
                · simp only [Act.put, sz_, s0_, s1_, i64_w, i32_w]
                  rfl
                refine pure_ (i := 6) (N := some 113) (v := ?_) (a' := ?_) (flg_ 17 119) rfl rfl (any_of HT_.out (by kernel_rfl)) (fun _ _ _ h => h) (Or.inl ⟨by rfl, ?_⟩) ?_ ?_
                rotate_left
                · intro w'
                  go_simp
                  with_reducible rfl
                rotate_left
                · simp only [Act.put, sz_, s0_, s1_, i64_w, i32_w]
                  rfl
                refine one_ (i := 3) (N := some 110) (flg_ 17 127) rfl rfl (one_of HT_.out (by kernel_rfl)) (by decide) (fun K hK => ?_)
                refine goes_ Try.func117 (by kernel_rfl) rfl #[.agg #[.int .i64 a0_0, .slice A0_1 l0_1.length c0_1], .int .i64 a1, .int .i64 x] (by rfl) rfl rfl (by (try simp only [List.map_toArray, List.map_cons, List.map_nil]); first | done | rfl) ?_
                refine (HLINE _ x (Kd.C_below HR.out dB_.out)).mono ?_
                rintro e wa_ ⟨rfl, hb⟩
                refine ⟨_, rfl, ?_⟩
                have HX2 := Aside0.mk (blk_below d2_.out hb)
                have HX3 := Aside0.mk (blk_below d3_.out hb)
                have HRG := Aside0.mk (dR_.out.kept (grown_of_below hb none) (by simp) (by simp))
                have HB := Aside0.mk (below_step dB_.out hb)
                clear hb d2_ d3_ dR_ dB_
                refine hK.out _ _ ⟨(blk_cell HX2.out 0).trans rfl, (blk_cell HX2.out 1).trans rfl, (blk_cell HX3.out 0).trans rfl⟩ (fun hHeld => ?_)
                clear hK K
                refine norm_ (a' := ?_) ?_ ?_
                rotate_left
                · show Act.put _ (some 110) _ = _
                  simp only [Act.put, sz_, s0_, s1_, i64_w, i32_w]
                  rfl
                refine pure_ (i := 7) (N := some 114) (v := ?_) (a' := ?_) (flg_ 17 255) rfl rfl (any_of HT_.out (by kernel_rfl)) (fun _ _ _ h => h) (Or.inl ⟨by rfl, ?_⟩) ?_ ?_
                rotate_left
                · intro w'
                  go_simp
                  with_reducible rfl
                rotate_left
                · simp only [Act.put, sz_, s0_, s1_, i64_w, i32_w]
                  rfl
                refine pure_ (i := 8) (N := some 115) (v := ?_) (a' := ?_) (flg_ 17 511) rfl rfl (any_of HT_.out (by kernel_rfl)) (fun _ _ _ h => h) (Or.inl ⟨by rfl, ?_⟩) ?_ ?_
                rotate_left
                · intro w'
                  go_simp
                  with_reducible rfl
                rotate_left
                · simp only [Act.put, sz_, s0_, s1_, i64_w, i32_w]
                  rfl
                refine pure_ (i := 9) (N := some 116) (v := undef) (a' := ?_) (flg_ 17 1023) rfl rfl (any_of HT_.out (by kernel_rfl)) (fun _ _ _ h => h) (Or.inr ⟨by rfl, rfl⟩) ?_ ?_
                rotate_left
                · simp only [Act.put, sz_, s0_, s1_, i64_w, i32_w]
                  rfl
                refine pure_ (i := 10) (N := some 117) (v := undef) (a' := ?_) (flg_ 17 2047) rfl rfl (any_of HT_.out (by kernel_rfl)) (fun _ _ _ h => h) (Or.inr ⟨by rfl, rfl⟩) ?_ ?_
                rotate_left
                · simp only [Act.put, sz_, s0_, s1_, i64_w, i32_w]
                  rfl
                refine pure_ (i := 11) (N := some 118) (v := undef) (a' := ?_) (flg_ 17 4095) rfl rfl (any_of HT_.out (by kernel_rfl)) (fun _ _ _ h => h) (Or.inr ⟨by rfl, rfl⟩) ?_ ?_
                rotate_left
                · simp only [Act.put, sz_, s0_, s1_, i64_w, i32_w]
                  rfl
                refine pure_ (i := 12) (N := some 119) (v := undef) (a' := ?_) (flg_ 17 8191) rfl rfl (any_of HT_.out (by kernel_rfl)) (fun _ _ _ h => h) (Or.inr ⟨by rfl, rfl⟩) ?_ ?_
                rotate_left
                · simp only [Act.put, sz_, s0_, s1_, i64_w, i32_w]
                  rfl
                refine pure_ (i := 13) (N := some 120) (v := undef) (a' := ?_) (flg_ 17 16383) rfl rfl (any_of HT_.out (by kernel_rfl)) (fun _ _ _ h => h) (Or.inr ⟨by rfl, rfl⟩) ?_ ?_
                rotate_left
                · simp only [Act.put, sz_, s0_, s1_, i64_w, i32_w]
                  rfl
                refine pure_ (i := 14) (N := some 121) (v := undef) (a' := ?_) (flg_ 17 32767) rfl rfl (any_of HT_.out (by kernel_rfl)) (fun _ _ _ h => h) (Or.inr ⟨by rfl, rfl⟩) ?_ ?_
                rotate_left
                · simp only [Act.put, sz_, s0_, s1_, i64_w, i32_w]
                  rfl
                refine pure_ (i := 15) (N := some 122) (v := undef) (a' := ?_) (flg_ 17 65535) rfl rfl (any_of HT_.out (by kernel_rfl)) (fun _ _ _ h => h) (Or.inr ⟨by rfl, rfl⟩) ?_ ?_
                rotate_left
                · simp only [Act.put, sz_, s0_, s1_, i64_w, i32_w]
                  rfl
                refine pure_ (i := 16) (N := some 123) (v := ?_) (a' := ?_) (flg_ 17 131071) rfl rfl (any_of HT_.out (by kernel_rfl)) (fun _ _ _ h => h) (Or.inl ⟨by rfl, ?_⟩) ?_ ?_
                rotate_left
                · intro w'
                  go_simp
                  with_reducible rfl
                rotate_left
                · simp only [Act.put, sz_, s0_, s1_, i64_w, i32_w]
                  rfl
                refine done_ (done_of HT_.out (by kernel_rfl)) ?_
                go_wp2_with fail
                go_roundg cnt1
                case measure => exact HCN.out
                case rel => exact ⟨_, cnt1, b, Nat.le_refl _, rfl, HBE, HRG, HX2, HX3, HB⟩
              | true =>
                have hle := beq_iff_eq.1 hl
                rw [HSW.out] at hle
                by_cases hb0 : b < 0
                · have HBE := Aside0.mk (show IsBest a0_0 a1 far.length far (fun y => !(left (.int .i64 y) && !(Lit.int .i64 y).sameKey (.int .i64 x))) c by have h_ := HBN.out; rw [if_pos ⟨hle, .inl hb0⟩] at h_; exact h_)
                  have q1 := decide_eq_true hb0
                  clear hle hb0
                  go_wp2_with fail
                  have d2_ := Aside0.mk (blk_drew HX2.out)
                  have d3_ := Aside0.mk (blk_drew HX3.out)
                  have dR_ := Aside0.mk (HRG.out.kept (grown_of_below (below_drew1 (Below.refl _ w1)) none) (by simp) (by simp))
                  have dB_ := Aside0.mk (below_drew1 HB.out)
                  clear HX2 HX3 HRG HB hc20 hc21 hc30 hen HBN
                  refine start_ (n := 17) (S := fun w' => w'.cell? ⟨g2, 0, none⟩ = some (.int .i64 a0_0) ∧ w'.cell? ⟨g2, 1, none⟩ = some (.slice A0_1 l0_1.length c0_1) ∧ w'.cell? ⟨g3, 0, none⟩ = some (.int .i64 a1)) (ds := []) #[false, false, false, false, false, false, false, false, false, false, false, false, false, false, false, false, false] (by kernel_rfl) rfl rfl ⟨(blk_cell d2_.out 0).trans rfl, (blk_cell d2_.out 1).trans rfl, (blk_cell d3_.out 0).trans rfl⟩ (fun hHeld => ?_)
                  refine with_tabW need_tab31 need_bits31 (fun HT_ HW_ => ?_)
                  generalize hq_ : w1.drew = wd_ at d2_ d3_ dR_ dB_ hHeld ⊢
                  clear hq_
                  refine take_ (i := 0) (N := some 107) (v := ?_) (a' := ?_) (flg_ 17 1) rfl rfl (take_ofW HT_.out HW_.out (by kernel_rfl)) (fun _ _ _ h => h) (Or.inl ⟨by rfl, ?_⟩) hHeld ?_ ?_
                  rotate_left
                  · rintro w' ⟨s0_, s1_, s2_⟩
                    go_simp
                    with_reducible rfl
                  rotate_left
                  · simp only [Act.put, sz_, s0_, s1_, i64_w, i32_w]
                    rfl
                  refine take_ (i := 1) (N := some 108) (v := ?_) (a' := ?_) (flg_ 17 3) rfl rfl (take_ofW HT_.out HW_.out (by kernel_rfl)) (fun _ _ _ h => h) (Or.inl ⟨by rfl, ?_⟩) hHeld ?_ ?_
                  rotate_left
                  · rintro w' ⟨s0_, s1_, s2_⟩
                    go_simp
                    with_reducible rfl
                  rotate_left
                  · simp only [Act.put, sz_, s0_, s1_, i64_w, i32_w]
                    rfl
                  refine pure_ (i := 2) (N := some 109) (v := ?_) (a' := ?_) (flg_ 17 7) rfl rfl (any_of HT_.out (by kernel_rfl)) (fun _ _ _ h => h) (Or.inl ⟨by rfl, ?_⟩) ?_ ?_
                  rotate_left
                  · intro w'
                    go_simp
                    with_reducible rfl
                  rotate_left
                  · simp only [Act.put, sz_, s0_, s1_, i64_w, i32_w]
                    rfl
                  refine pure_ (i := 4) (N := some 111) (v := ?_) (a' := ?_) (flg_ 17 23) rfl rfl (any_of HT_.out (by kernel_rfl)) (fun _ _ _ h => h) (Or.inl ⟨by rfl, ?_⟩) ?_ ?_
                  rotate_left
                  · intro w'
                    go_simp
                    with_reducible rfl
                  rotate_left
                  · simp only [Act.put, sz_, s0_, s1_, i64_w, i32_w]
                    rfl
                  refine take_ (i := 5) (N := some 112) (v := ?_) (a' := ?_) (flg_ 17 55) rfl rfl (take_ofW HT_.out HW_.out (by kernel_rfl)) (fun _ _ _ h => h) (Or.inl ⟨by rfl, ?_⟩) hHeld ?_ ?_
                  rotate_left
                  · rintro w' ⟨s0_, s1_, s2_⟩
                    go_simp
                    with_reducible rfl
                  rotate_left
                  · simp only [Act.put, sz_, s0_, s1_, i64_w, i32_w]
                    rfl
                  refine pure_ (i := 6) (N := some 113) (v := ?_) (a' := ?_) (flg_ 17 119) rfl rfl (any_of HT_.out (by kernel_rfl)) (fun _ _ _ h => h) (Or.inl ⟨by rfl, ?_⟩) ?_ ?_
                  rotate_left
                  · intro w'
                    go_simp
                    with_reducible rfl
                  rotate_left
                  · simp only [Act.put, sz_, s0_, s1_, i64_w, i32_w]
                    rfl
                  refine one_ (i := 3) (N := some 110) (flg_ 17 127) rfl rfl (one_of HT_.out (by kernel_rfl)) (by decide) (fun K hK => ?_)
                  refine goes_ Try.func117 (by kernel_rfl) rfl #[.agg #[.int .i64 a0_0, .slice A0_1 l0_1.length c0_1], .int .i64 a1, .int .i64 x] (by rfl) rfl rfl (by (try simp only [List.map_toArray, List.map_cons, List.map_nil]); first | done | rfl) ?_
                  refine (HLINE _ x (Kd.C_below HR.out dB_.out)).mono ?_
                  rintro e wa_ ⟨rfl, hb⟩
                  refine ⟨_, rfl, ?_⟩
                  have HX2 := Aside0.mk (blk_below d2_.out hb)
                  have HX3 := Aside0.mk (blk_below d3_.out hb)
                  have HRG := Aside0.mk (dR_.out.kept (grown_of_below hb none) (by simp) (by simp))
                  have HB := Aside0.mk (below_step dB_.out hb)
                  clear hb d2_ d3_ dR_ dB_
                  refine hK.out _ _ ⟨(blk_cell HX2.out 0).trans rfl, (blk_cell HX2.out 1).trans rfl, (blk_cell HX3.out 0).trans rfl⟩ (fun hHeld => ?_)
                  clear hK K
                  refine norm_ (a' := ?_) ?_ ?_
                  rotate_left
                  · show Act.put _ (some 110) _ = _
                    simp only [Act.put, sz_, s0_, s1_, i64_w, i32_w]
                    rfl
                  refine pure_ (i := 7) (N := some 114) (v := ?_) (a' := ?_) (flg_ 17 255) rfl rfl (any_of HT_.out (by kernel_rfl)) (fun _ _ _ h => h) (Or.inl ⟨by rfl, ?_⟩) ?_ ?_
                  rotate_left
                  · intro w'
                    go_simp
                    with_reducible rfl
                  rotate_left
                  · simp only [Act.put, sz_, s0_, s1_, i64_w, i32_w]
                    rfl
                  refine pure_ (i := 8) (N := some 115) (v := ?_) (a' := ?_) (flg_ 17 511) rfl rfl (any_of HT_.out (by kernel_rfl)) (fun _ _ _ h => h) (Or.inl ⟨by rfl, ?_⟩) ?_ ?_
                  rotate_left
                  · intro w'
                    go_simp
                    with_reducible rfl
                  rotate_left
                  · simp only [Act.put, sz_, s0_, s1_, i64_w, i32_w]
                    rfl
                  refine pure_ (i := 9) (N := some 116) (v := ?_) (a' := ?_) (flg_ 17 1023) rfl rfl (any_of HT_.out (by kernel_rfl)) (fun _ _ _ h => h) (Or.inl ⟨by rfl, ?_⟩) ?_ ?_
                  rotate_left
                  · intro w'
                    go_simp
                    with_reducible rfl
                  rotate_left
                  · simp only [Act.put, sz_, s0_, s1_, i64_w, i32_w]
                    rfl
                  refine pure_ (i := 10) (N := some 117) (v := ?_) (a' := ?_) (flg_ 17 2047) rfl rfl (any_of HT_.out (by kernel_rfl)) (fun _ _ _ h => h) (Or.inl ⟨by rfl, ?_⟩) ?_ ?_
                  rotate_left
                  · intro w'
                    go_simp
                    with_reducible rfl
                  rotate_left
                  · simp only [Act.put, sz_, s0_, s1_, i64_w, i32_w]
                    rfl
                  refine pure_ (i := 11) (N := some 118) (v := ?_) (a' := ?_) (flg_ 17 4095) rfl rfl (any_of HT_.out (by kernel_rfl)) (fun _ _ _ h => h) (Or.inl ⟨by rfl, ?_⟩) ?_ ?_
                  rotate_left
                  · intro w'
                    go_simp
                    with_reducible rfl
                  rotate_left
                  · simp only [Act.put, sz_, s0_, s1_, i64_w, i32_w]
                    rfl
                  refine pure_ (i := 12) (N := some 119) (v := undef) (a' := ?_) (flg_ 17 8191) rfl rfl (any_of HT_.out (by kernel_rfl)) (fun _ _ _ h => h) (Or.inr ⟨by rfl, rfl⟩) ?_ ?_
                  rotate_left
                  · simp only [Act.put, sz_, s0_, s1_, i64_w, i32_w]
                    rfl
                  refine pure_ (i := 13) (N := some 120) (v := undef) (a' := ?_) (flg_ 17 16383) rfl rfl (any_of HT_.out (by kernel_rfl)) (fun _ _ _ h => h) (Or.inr ⟨by rfl, rfl⟩) ?_ ?_
                  rotate_left
                  · simp only [Act.put, sz_, s0_, s1_, i64_w, i32_w]
                    rfl
                  refine pure_ (i := 14) (N := some 121) (v := undef) (a' := ?_) (flg_ 17 32767) rfl rfl (any_of HT_.out (by kernel_rfl)) (fun _ _ _ h => h) (Or.inr ⟨by rfl, rfl⟩) ?_ ?_
                  rotate_left
                  · simp only [Act.put, sz_, s0_, s1_, i64_w, i32_w]
                    rfl
                  refine pure_ (i := 15) (N := some 122) (v := ?_) (a' := ?_) (flg_ 17 65535) rfl rfl (any_of HT_.out (by kernel_rfl)) (fun _ _ _ h => h) (Or.inl ⟨by rfl, ?_⟩) ?_ ?_
                  rotate_left
                  · intro w'
                    go_simp
                    with_reducible rfl
                  rotate_left
                  · simp only [Act.put, sz_, s0_, s1_, i64_w, i32_w]
                    rfl
                  refine pure_ (i := 16) (N := some 123) (v := ?_) (a' := ?_) (flg_ 17 131071) rfl rfl (any_of HT_.out (by kernel_rfl)) (fun _ _ _ h => h) (Or.inl ⟨by rfl, ?_⟩) ?_ ?_
                  rotate_left
                  · intro w'
                    go_simp
                    with_reducible rfl
                  rotate_left
                  · simp only [Act.put, sz_, s0_, s1_, i64_w, i32_w]
                    rfl
                  refine done_ (done_of HT_.out (by kernel_rfl)) ?_
                  go_wp2_with fail
                  go_roundg cnt1
                  case measure => exact HCN.out
                  case rel => exact ⟨_, cnt1, c, Nat.le_refl _, rfl, HBE, HRG, HX2, HX3, HB⟩
                · by_cases hcb : c < b
                  · have HBE := Aside0.mk (show IsBest a0_0 a1 far.length far (fun y => !(left (.int .i64 y) && !(Lit.int .i64 y).sameKey (.int .i64 x))) c by have h_ := HBN.out; rw [if_pos ⟨hle, .inr hcb⟩] at h_; exact h_)
                    have q1 := decide_eq_false hb0
                    have q2 := decide_eq_true hcb
                    clear hle hb0 hcb
                    go_wp2_with fail
                    have d2_ := Aside0.mk (blk_drew HX2.out)
                    have d3_ := Aside0.mk (blk_drew HX3.out)
                    have dR_ := Aside0.mk (HRG.out.kept (grown_of_below (below_drew1 (Below.refl _ w1)) none) (by simp) (by simp))
                    have dB_ := Aside0.mk (below_drew1 HB.out)
                    clear HX2 HX3 HRG HB hc20 hc21 hc30 hen HBN
                    refine start_ (n := 17) (S := fun w' => w'.cell? ⟨g2, 0, none⟩ = some (.int .i64 a0_0) ∧ w'.cell? ⟨g2, 1, none⟩ = some (.slice A0_1 l0_1.length c0_1) ∧ w'.cell? ⟨g3, 0, none⟩ = some (.int .i64 a1)) (ds := []) #[false, false, false, false, false, false, false, false, false, false, false, false, false, false, false, false, false] (by kernel_rfl) rfl rfl ⟨(blk_cell d2_.out 0).trans rfl, (blk_cell d2_.out 1).trans rfl, (blk_cell d3_.out 0).trans rfl⟩ (fun hHeld => ?_)
                    refine with_tabW need_tab31 need_bits31 (fun HT_ HW_ => ?_)
                    generalize hq_ : w1.drew = wd_ at d2_ d3_ dR_ dB_ hHeld ⊢
                    clear hq_
                    refine take_ (i := 0) (N := some 107) (v := ?_) (a' := ?_) (flg_ 17 1) rfl rfl (take_ofW HT_.out HW_.out (by kernel_rfl)) (fun _ _ _ h => h) (Or.inl ⟨by rfl, ?_⟩) hHeld ?_ ?_
                    rotate_left
                    · rintro w' ⟨s0_, s1_, s2_⟩
                      go_simp
                      with_reducible rfl
                    rotate_left
                    · simp only [Act.put, sz_, s0_, s1_, i64_w, i32_w]
                      rfl
                    refine take_ (i := 1) (N := some 108) (v := ?_) (a' := ?_) (flg_ 17 3) rfl rfl (take_ofW HT_.out HW_.out (by kernel_rfl)) (fun _ _ _ h => h) (Or.inl ⟨by rfl, ?_⟩) hHeld ?_ ?_
                    rotate_left
                    · rintro w' ⟨s0_, s1_, s2_⟩
                      go_simp
                      with_reducible rfl
                    rotate_left
                    · simp only [Act.put, sz_, s0_, s1_, i64_w, i32_w]
                      rfl
                    refine pure_ (i := 2) (N := some 109) (v := ?_) (a' := ?_) (flg_ 17 7) rfl rfl (any_of HT_.out (by kernel_rfl)) (fun _ _ _ h => h) (Or.inl ⟨by rfl, ?_⟩) ?_ ?_
                    rotate_left
                    · intro w'
                      go_simp
                      with_reducible rfl
                    rotate_left
                    · simp only [Act.put, sz_, s0_, s1_, i64_w, i32_w]
                      rfl
                    refine pure_ (i := 4) (N := some 111) (v := ?_) (a' := ?_) (flg_ 17 23) rfl rfl (any_of HT_.out (by kernel_rfl)) (fun _ _ _ h => h) (Or.inl ⟨by rfl, ?_⟩) ?_ ?_
                    rotate_left
                    · intro w'
                      go_simp
                      with_reducible rfl
                    rotate_left
                    · simp only [Act.put, sz_, s0_, s1_, i64_w, i32_w]
                      rfl
                    refine take_ (i := 5) (N := some 112) (v := ?_) (a' := ?_) (flg_ 17 55) rfl rfl (take_ofW HT_.out HW_.out (by kernel_rfl)) (fun _ _ _ h => h) (Or.inl ⟨by rfl, ?_⟩) hHeld ?_ ?_
                    rotate_left
                    · rintro w' ⟨s0_, s1_, s2_⟩
                      go_simp
                      with_reducible rfl
                    rotate_left
                    · simp only [Act.put, sz_, s0_, s1_, i64_w, i32_w]
                      rfl
                    refine pure_ (i := 6) (N := some 113) (v := ?_) (a' := ?_) (flg_ 17 119) rfl rfl (any_of HT_.out (by kernel_rfl)) (fun _ _ _ h => h) (Or.inl ⟨by rfl, ?_⟩) ?_ ?_
                    rotate_left
                    · intro w'
                      go_simp
                      with_reducible rfl
                    rotate_left
                    · simp only [Act.put, sz_, s0_, s1_, i64_w, i32_w]
                      rfl
                    refine one_ (i := 3) (N := some 110) (flg_ 17 127) rfl rfl (one_of HT_.out (by kernel_rfl)) (by decide) (fun K hK => ?_)
                    refine goes_ Try.func117 (by kernel_rfl) rfl #[.agg #[.int .i64 a0_0, .slice A0_1 l0_1.length c0_1], .int .i64 a1, .int .i64 x] (by rfl) rfl rfl (by (try simp only [List.map_toArray, List.map_cons, List.map_nil]); first | done | rfl) ?_
                    refine (HLINE _ x (Kd.C_below HR.out dB_.out)).mono ?_
                    rintro e wa_ ⟨rfl, hb⟩
                    refine ⟨_, rfl, ?_⟩
                    have HX2 := Aside0.mk (blk_below d2_.out hb)
                    have HX3 := Aside0.mk (blk_below d3_.out hb)
                    have HRG := Aside0.mk (dR_.out.kept (grown_of_below hb none) (by simp) (by simp))
                    have HB := Aside0.mk (below_step dB_.out hb)
                    clear hb d2_ d3_ dR_ dB_
                    refine hK.out _ _ ⟨(blk_cell HX2.out 0).trans rfl, (blk_cell HX2.out 1).trans rfl, (blk_cell HX3.out 0).trans rfl⟩ (fun hHeld => ?_)
                    clear hK K
                    refine norm_ (a' := ?_) ?_ ?_
                    rotate_left
                    · show Act.put _ (some 110) _ = _
                      simp only [Act.put, sz_, s0_, s1_, i64_w, i32_w]
                      rfl
                    refine pure_ (i := 7) (N := some 114) (v := ?_) (a' := ?_) (flg_ 17 255) rfl rfl (any_of HT_.out (by kernel_rfl)) (fun _ _ _ h => h) (Or.inl ⟨by rfl, ?_⟩) ?_ ?_
                    rotate_left
                    · intro w'
                      go_simp
                      with_reducible rfl
                    rotate_left
                    · simp only [Act.put, sz_, s0_, s1_, i64_w, i32_w]
                      rfl
                    refine pure_ (i := 8) (N := some 115) (v := ?_) (a' := ?_) (flg_ 17 511) rfl rfl (any_of HT_.out (by kernel_rfl)) (fun _ _ _ h => h) (Or.inl ⟨by rfl, ?_⟩) ?_ ?_
                    rotate_left
                    · intro w'
                      go_simp
                      with_reducible rfl
                    rotate_left
                    · simp only [Act.put, sz_, s0_, s1_, i64_w, i32_w]
                      rfl
                    refine pure_ (i := 9) (N := some 116) (v := ?_) (a' := ?_) (flg_ 17 1023) rfl rfl (any_of HT_.out (by kernel_rfl)) (fun _ _ _ h => h) (Or.inl ⟨by rfl, ?_⟩) ?_ ?_
                    rotate_left
                    · intro w'
                      go_simp
                      with_reducible rfl
                    rotate_left
                    · simp only [Act.put, sz_, s0_, s1_, i64_w, i32_w]
                      rfl
                    refine pure_ (i := 10) (N := some 117) (v := ?_) (a' := ?_) (flg_ 17 2047) rfl rfl (any_of HT_.out (by kernel_rfl)) (fun _ _ _ h => h) (Or.inl ⟨by rfl, ?_⟩) ?_ ?_
                    rotate_left
                    · intro w'
                      go_simp
                      with_reducible rfl
                    rotate_left
                    · simp only [Act.put, sz_, s0_, s1_, i64_w, i32_w]
                      rfl
                    refine pure_ (i := 11) (N := some 118) (v := ?_) (a' := ?_) (flg_ 17 4095) rfl rfl (any_of HT_.out (by kernel_rfl)) (fun _ _ _ h => h) (Or.inl ⟨by rfl, ?_⟩) ?_ ?_
                    rotate_left
                    · intro w'
                      go_simp
                      with_reducible rfl
                    rotate_left
                    · simp only [Act.put, sz_, s0_, s1_, i64_w, i32_w]
                      rfl
                    refine pure_ (i := 12) (N := some 119) (v := ?_) (a' := ?_) (flg_ 17 8191) rfl rfl (any_of HT_.out (by kernel_rfl)) (fun _ _ _ h => h) (Or.inl ⟨by rfl, ?_⟩) ?_ ?_
                    rotate_left
                    · intro w'
                      go_simp
                      with_reducible rfl
                    rotate_left
                    · simp only [Act.put, sz_, s0_, s1_, i64_w, i32_w]
                      rfl
                    refine pure_ (i := 13) (N := some 120) (v := ?_) (a' := ?_) (flg_ 17 16383) rfl rfl (any_of HT_.out (by kernel_rfl)) (fun _ _ _ h => h) (Or.inl ⟨by rfl, ?_⟩) ?_ ?_
                    rotate_left
                    · intro w'
                      go_simp
                      with_reducible rfl
                    rotate_left
                    · simp only [Act.put, sz_, s0_, s1_, i64_w, i32_w]
                      rfl
                    refine pure_ (i := 14) (N := some 121) (v := ?_) (a' := ?_) (flg_ 17 32767) rfl rfl (any_of HT_.out (by kernel_rfl)) (fun _ _ _ h => h) (Or.inl ⟨by rfl, ?_⟩) ?_ ?_
                    rotate_left
                    · intro w'
                      go_simp
                      with_reducible rfl
                    rotate_left
                    · simp only [Act.put, sz_, s0_, s1_, i64_w, i32_w]
                      rfl
                    refine pure_ (i := 15) (N := some 122) (v := ?_) (a' := ?_) (flg_ 17 65535) rfl rfl (any_of HT_.out (by kernel_rfl)) (fun _ _ _ h => h) (Or.inl ⟨by rfl, ?_⟩) ?_ ?_
                    rotate_left
                    · intro w'
                      go_simp
                      with_reducible rfl
                    rotate_left
                    · simp only [Act.put, sz_, s0_, s1_, i64_w, i32_w]
                      rfl
                    refine pure_ (i := 16) (N := some 123) (v := ?_) (a' := ?_) (flg_ 17 131071) rfl rfl (any_of HT_.out (by kernel_rfl)) (fun _ _ _ h => h) (Or.inl ⟨by rfl, ?_⟩) ?_ ?_
                    rotate_left
                    · intro w'
                      go_simp
                      with_reducible rfl
                    rotate_left
                    · simp only [Act.put, sz_, s0_, s1_, i64_w, i32_w]
                      rfl
                    refine done_ (done_of HT_.out (by kernel_rfl)) ?_
                    go_wp2_with fail
                    go_roundg cnt1
                    case measure => exact HCN.out
                    case rel => exact ⟨_, cnt1, c, Nat.le_refl _, rfl, HBE, HRG, HX2, HX3, HB⟩
                  · have HBE := Aside0.mk (show IsBest a0_0 a1 far.length far (fun y => !(left (.int .i64 y) && !(Lit.int .i64 y).sameKey (.int .i64 x))) b by have h_ := HBN.out; rw [if_neg (fun h => by rcases h.2 with h | h; exact hb0 h; exact hcb h)] at h_; exact h_)
                    have q1 := decide_eq_false hb0
                    have q2 := decide_eq_false hcb
                    clear hle hb0 hcb
                    go_wp2_with fail
                    have d2_ := Aside0.mk (blk_drew HX2.out)
                    have d3_ := Aside0.mk (blk_drew HX3.out)
                    have dR_ := Aside0.mk (HRG.out.kept (grown_of_below (below_drew1 (Below.refl _ w1)) none) (by simp) (by simp))
                    have dB_ := Aside0.mk (below_drew1 HB.out)
                    clear HX2 HX3 HRG HB hc20 hc21 hc30 hen HBN
                    refine start_ (n := 17) (S := fun w' => w'.cell? ⟨g2, 0, none⟩ = some (.int .i64 a0_0) ∧ w'.cell? ⟨g2, 1, none⟩ = some (.slice A0_1 l0_1.length c0_1) ∧ w'.cell? ⟨g3, 0, none⟩ = some (.int .i64 a1)) (ds := []) #[false, false, false, false, false, false, false, false, false, false, false, false, false, false, false, false, false] (by kernel_rfl) rfl rfl ⟨(blk_cell d2_.out 0).trans rfl, (blk_cell d2_.out 1).trans rfl, (blk_cell d3_.out 0).trans rfl⟩ (fun hHeld => ?_)
                    refine with_tabW need_tab31 need_bits31 (fun HT_ HW_ => ?_)
                    generalize hq_ : w1.drew = wd_ at d2_ d3_ dR_ dB_ hHeld ⊢
                    clear hq_
                    refine take_ (i := 0) (N := some 107) (v := ?_) (a' := ?_) (flg_ 17 1) rfl rfl (take_ofW HT_.out HW_.out (by kernel_rfl)) (fun _ _ _ h => h) (Or.inl ⟨by rfl, ?_⟩) hHeld ?_ ?_
                    rotate_left
                    · rintro w' ⟨s0_, s1_, s2_⟩
                      go_simp
                      with_reducible rfl
                    rotate_left
                    · simp only [Act.put, sz_, s0_, s1_, i64_w, i32_w]
                      rfl
                    refine take_ (i := 1) (N := some 108) (v := ?_) (a' := ?_) (flg_ 17 3) rfl rfl (take_ofW HT_.out HW_.out (by kernel_rfl)) (fun _ _ _ h => h) (Or.inl ⟨by rfl, ?_⟩) hHeld ?_ ?_
                    rotate_left
                    · rintro w' ⟨s0_, s1_, s2_⟩
                      go_simp
                      with_reducible rfl
                    rotate_left
                    · simp only [Act.put, sz_, s0_, s1_, i64_w, i32_w]
                      rfl
                    refine pure_ (i := 2) (N := some 109) (v := ?_) (a' := ?_) (flg_ 17 7) rfl rfl (any_of HT_.out (by kernel_rfl)) (fun _ _ _ h => h) (Or.inl ⟨by rfl, ?_⟩) ?_ ?_
                    rotate_left
                    · intro w'
                      go_simp
                      with_reducible rfl
                    rotate_left
                    · simp only [Act.put, sz_, s0_, s1_, i64_w, i32_w]
                      rfl
                    refine pure_ (i := 4) (N := some 111) (v := ?_) (a' := ?_) (flg_ 17 23) rfl rfl (any_of HT_.out (by kernel_rfl)) (fun _ _ _ h => h) (Or.inl ⟨by rfl, ?_⟩) ?_ ?_
                    rotate_left
                    · intro w'
                      go_simp
                      with_reducible rfl
                    rotate_left
                    · simp only [Act.put, sz_, s0_, s1_, i64_w, i32_w]
                      rfl
                    refine take_ (i := 5) (N := some 112) (v := ?_) (a' := ?_) (flg_ 17 55) rfl rfl (take_ofW HT_.out HW_.out (by kernel_rfl)) (fun _ _ _ h => h) (Or.inl ⟨by rfl, ?_⟩) hHeld ?_ ?_
                    rotate_left
                    · rintro w' ⟨s0_, s1_, s2_⟩
                      go_simp
                      with_reducible rfl
                    rotate_left
                    · simp only [Act.put, sz_, s0_, s1_, i64_w, i32_w]
                      rfl
                    refine pure_ (i := 6) (N := some 113) (v := ?_) (a' := ?_) (flg_ 17 119) rfl rfl (any_of HT_.out (by kernel_rfl)) (fun _ _ _ h => h) (Or.inl ⟨by rfl, ?_⟩) ?_ ?_
                    rotate_left
                    · intro w'
                      go_simp
                      with_reducible rfl
                    rotate_left
                    · simp only [Act.put, sz_, s0_, s1_, i64_w, i32_w]
                      rfl
                    refine one_ (i := 3) (N := some 110) (flg_ 17 127) rfl rfl (one_of HT_.out (by kernel_rfl)) (by decide) (fun K hK => ?_)
                    refine goes_ Try.func117 (by kernel_rfl) rfl #[.agg #[.int .i64 a0_0, .slice A0_1 l0_1.length c0_1], .int .i64 a1, .int .i64 x] (by rfl) rfl rfl (by (try simp only [List.map_toArray, List.map_cons, List.map_nil]); first | done | rfl) ?_
                    refine (HLINE _ x (Kd.C_below HR.out dB_.out)).mono ?_
                    rintro e wa_ ⟨rfl, hb⟩
                    refine ⟨_, rfl, ?_⟩
                    have HX2 := Aside0.mk (blk_below d2_.out hb)
                    have HX3 := Aside0.mk (blk_below d3_.out hb)
                    have HRG := Aside0.mk (dR_.out.kept (grown_of_below hb none) (by simp) (by simp))
                    have HB := Aside0.mk (below_step dB_.out hb)
                    clear hb d2_ d3_ dR_ dB_
                    refine hK.out _ _ ⟨(blk_cell HX2.out 0).trans rfl, (blk_cell HX2.out 1).trans rfl, (blk_cell HX3.out 0).trans rfl⟩ (fun hHeld => ?_)
                    clear hK K
                    refine norm_ (a' := ?_) ?_ ?_
                    rotate_left
                    · show Act.put _ (some 110) _ = _
                      simp only [Act.put, sz_, s0_, s1_, i64_w, i32_w]
                      rfl
                    refine pure_ (i := 7) (N := some 114) (v := ?_) (a' := ?_) (flg_ 17 255) rfl rfl (any_of HT_.out (by kernel_rfl)) (fun _ _ _ h => h) (Or.inl ⟨by rfl, ?_⟩) ?_ ?_
                    rotate_left
                    · intro w'
                      go_simp
                      with_reducible rfl
                    rotate_left
                    · simp only [Act.put, sz_, s0_, s1_, i64_w, i32_w]
                      rfl
                    refine pure_ (i := 8) (N := some 115) (v := ?_) (a' := ?_) (flg_ 17 511) rfl rfl (any_of HT_.out (by kernel_rfl)) (fun _ _ _ h => h) (Or.inl ⟨by rfl, ?_⟩) ?_ ?_
                    rotate_left
                    · intro w'
                      go_simp
                      with_reducible rfl
                    rotate_left
                    · simp only [Act.put, sz_, s0_, s1_, i64_w, i32_w]
                      rfl
                    refine pure_ (i := 9) (N := some 116) (v := ?_) (a' := ?_) (flg_ 17 1023) rfl rfl (any_of HT_.out (by kernel_rfl)) (fun _ _ _ h => h) (Or.inl ⟨by rfl, ?_⟩) ?_ ?_
                    rotate_left
                    · intro w'
                      go_simp
                      with_reducible rfl
                    rotate_left
                    · simp only [Act.put, sz_, s0_, s1_, i64_w, i32_w]
                      rfl
                    refine pure_ (i := 10) (N := some 117) (v := ?_) (a' := ?_) (flg_ 17 2047) rfl rfl (any_of HT_.out (by kernel_rfl)) (fun _ _ _ h => h) (Or.inl ⟨by rfl, ?_⟩) ?_ ?_
                    rotate_left
                    · intro w'
                      go_simp
                      with_reducible rfl
                    rotate_left
                    · simp only [Act.put, sz_, s0_, s1_, i64_w, i32_w]
                      rfl
                    refine pure_ (i := 11) (N := some 118) (v := ?_) (a' := ?_) (flg_ 17 4095) rfl rfl (any_of HT_.out (by kernel_rfl)) (fun _ _ _ h => h) (Or.inl ⟨by rfl, ?_⟩) ?_ ?_
                    rotate_left
                    · intro w'
                      go_simp
                      with_reducible rfl
                    rotate_left
                    · simp only [Act.put, sz_, s0_, s1_, i64_w, i32_w]
                      rfl
                    refine pure_ (i := 12) (N := some 119) (v := ?_) (a' := ?_) (flg_ 17 8191) rfl rfl (any_of HT_.out (by kernel_rfl)) (fun _ _ _ h => h) (Or.inl ⟨by rfl, ?_⟩) ?_ ?_
                    rotate_left
                    · intro w'
                      go_simp
                      with_reducible rfl
                    rotate_left
                    · simp only [Act.put, sz_, s0_, s1_, i64_w, i32_w]
                      rfl
                    refine pure_ (i := 13) (N := some 120) (v := ?_) (a' := ?_) (flg_ 17 16383) rfl rfl (any_of HT_.out (by kernel_rfl)) (fun _ _ _ h => h) (Or.inl ⟨by rfl, ?_⟩) ?_ ?_
                    rotate_left
                    · intro w'
                      go_simp
                      with_reducible rfl
                    rotate_left
                    · simp only [Act.put, sz_, s0_, s1_, i64_w, i32_w]
                      rfl
                    refine pure_ (i := 14) (N := some 121) (v := ?_) (a' := ?_) (flg_ 17 32767) rfl rfl (any_of HT_.out (by kernel_rfl)) (fun _ _ _ h => h) (Or.inl ⟨by rfl, ?_⟩) ?_ ?_
                    rotate_left
                    · intro w'
                      go_simp
                      with_reducible rfl
                    rotate_left
                    · simp only [Act.put, sz_, s0_, s1_, i64_w, i32_w]
                      rfl
                    refine pure_ (i := 15) (N := some 122) (v := ?_) (a' := ?_) (flg_ 17 65535) rfl rfl (any_of HT_.out (by kernel_rfl)) (fun _ _ _ h => h) (Or.inl ⟨by rfl, ?_⟩) ?_ ?_
                    rotate_left
                    · intro w'
                      go_simp
                      with_reducible rfl
                    rotate_left
                    · simp only [Act.put, sz_, s0_, s1_, i64_w, i32_w]
                      rfl
                    refine pure_ (i := 16) (N := some 123) (v := ?_) (a' := ?_) (flg_ 17 131071) rfl rfl (any_of HT_.out (by kernel_rfl)) (fun _ _ _ h => h) (Or.inl ⟨by rfl, ?_⟩) ?_ ?_
                    rotate_left
                    · intro w'
                      go_simp
                      with_reducible rfl
                    rotate_left
                    · simp only [Act.put, sz_, s0_, s1_, i64_w, i32_w]
                      rfl
                    refine done_ (done_of HT_.out (by kernel_rfl)) ?_
                    go_wp2_with fail
                    go_roundg cnt1
                    case measure => exact HCN.out
                    case rel => exact ⟨_, cnt1, b, Nat.le_refl _, rfl, HBE, HRG, HX2, HX3, HB⟩
/-! ### impl_Hex_joiner: function 55 -/
def impl_Hex_joiner.l0 : Nat → List Int → Int → Int → Int → List Int → Option (Int)
 | 0, _, _, _, _, _ => none
 | k + 1, x5, x6, x7, x224000, x224001 => if x7 < x6 then (if 0 ≤ x7 then (if x7 < (x5.length : Int) then ((impl_Hex_need.f k x224000 x224001 (rd x5 x7)).bind fun t228 => (if t228 = 0 then (some (rd x5 x7)) else (impl_Hex_joiner.l0 k x5 x6 (wrap64 (x7 + 1)) x224000 x224001))) else (none)) else (none)) else (some 0)
def impl_Hex_joiner.f (k : Nat) (a0_0 : Int) (l0_1 : List Int) : Option (Int) := (some (([1, 2] : List Int) : List Int)).bind fun y224 => (impl_Hex_joiner.l0 k y224 (y224.length : Int) 0 a0_0 l0_1)
set_option maxHeartbeats 8000000 in
set_option maxRecDepth 100000 in
theorem impl_Hex_joiner.calls (k : Nat) (a0_0 : Int) (A0_1 : Option Addr) (c0_1 : Nat) (l0_1 : List Int) (r : Int) (w : World) (hr0_1 : Kd.C (Kd.int .i64) w A0_1 l0_1.length l0_1) (hc0_1 : l0_1.length ≤ c0_1) (h : impl_Hex_joiner.f k a0_0 l0_1 = some r) :
  Calls Try.prog 55 #[.agg #[.int .i64 a0_0, .slice A0_1 l0_1.length c0_1]] w fun e w' => e = .returned (.int .i64 r) ∧ Below w.heap.size w w' := by
 have hu28 := Try.underlying28
 have HR0_1 := Aside0.mk hr0_1
 have HC0_1 := Aside0.mk hc0_1
 clear hr0_1 hc0_1
 have HB := Aside0.mk (Below.refl w.heap.size w)
 have H : ((some (([1, 2] : List Int) : List Int)).bind fun y224 => (impl_Hex_joiner.l0 k y224 (y224.length : Int) 0 a0_0 l0_1)) = some r := h
 clear h
 obtain ⟨y224, hy224⟩ : ∃ y_ : List Int, y_ = (([1, 2] : List Int)) := ⟨_, rfl⟩
 replace H : (impl_Hex_joiner.l0 k y224 (y224.length : Int) 0 a0_0 l0_1) = some r := by first | (rw [hy224]; with_reducible exact H) | (have H2_ := (Option.bind_some _ _).symm.trans H; rw [hy224]; with_reducible exact H2_) | (have H2_ := (Option.bind_some _ _).symm.trans H; with_reducible exact H2_) | with_reducible exact H | (rw [hy224]; exact H) | exact H
 have Ny224 := Aside0.mk hy224
 clear hy224
 have H' := Aside0.mk H
 clear H
 go_enter Try.func55, Try.ntmps55
 go_wp2_with (first | ((with_reducible refine gate_dst (N := 1) rfl ?_); refine box_event ?hg (N := 1) ?hd (cs := #[.int .i64 a0_0, .slice A0_1 l0_1.length c0_1]) (t := 28) ?hr ?_; (case hd => rfl); (case hg => rfl); (case hr => first | (go_simp; done) | (go_simp; rfl)); intro gb223 hg w2 hbox hb; have n0_ := Aside0.mk (below_step hb_ hb); have n1_ := Aside0.mk (hbox); have n2_ := Aside0.mk ((by rw [hg]; exact (below_size hb_) : w.heap.size ≤ gb223)); have n3_ := Aside0.mk ((by rw [hg]; exact (below_size hb_) : w.heap.size ≤ gb223)); clear HB; have HB := n0_; have BK223 := n1_; have GW223 := n2_; have GE223 := n3_; clear n0_ n1_ n2_ n3_; clear hb hbox hg) | ((with_reducible refine gate_dst (N := 5) rfl ?_); refine Kd.R_lit (Kd.int .i64) _ 2 ?hg (N := 5) ?hd (xs := ([1, 2] : List Int)) (inner := [.int .i64 1, .int .i64 2]) (ok := fun _ => True) (okp := fun _ => True) ?hr ?hp (fun _ hk => hk) trivial (Below.refl _ _) (Nat.le_refl _) (by simp) ?_; (case hd => rfl); (case hg => rfl); (case hr => first | (go_simp; done) | (go_simp; rfl)); (case hp => exact (Reps.one (show Kd.M (Kd.int .i64) _ _ _ 1 [.int .i64 1] from rfl) (Reps.one (show Kd.M (Kd.int .i64) _ _ _ 2 [.int .i64 2] from rfl) (Reps.none _ _)))); intro v225 w3 ho4 hb hg_ hnew_; clear hg_ hnew_; (first | rw [← Ny224.out] at ho4 | (simp only [Int.reduceToNat] at ho4; rw [← Ny224.out] at ho4)); have n0_ := Aside0.mk (Kd.R_lower ho4 (below_size (by repeat (first | (with_reducible first | exact HB.out | apply below_alloc | apply pw_below_drewN | apply below_drew1 | refine below_set ?_ GE223.out) | exact HB.out)))); have n1_ := Aside0.mk (blk_below (g := gb223) (o := .cells #[.int .i64 a0_0, .slice A0_1 l0_1.length c0_1] 28 (0, 0)) (by (with_reducible repeat (first | refine blk_drewN ?_ _ | refine blk_drew ?_ | refine blk_alloc ?_ _)); exact BK223.out) hb); have n2_ := Aside0.mk (below_step (by repeat (first | (with_reducible first | exact HB.out | apply below_alloc | apply pw_below_drewN | apply below_drew1 | refine below_set ?_ GE223.out) | exact HB.out)) hb); clear BK223; clear HB; have HO226 := n0_; have BK223 := n1_; have HB := n2_; clear n0_ n1_ n2_; clear hb ho4; obtain ⟨Ao5, co5, eo5⟩ := Kd.R_slice HO226.out; subst eo5))
 go_loopg [7] k (fun kq v7 w' => ∃ (x7_1 : Int), v7 = .int .i64 x7_1 ∧ Aside0 (impl_Hex_joiner.l0 kq y224 (y224.length : Int) x7_1 a0_0 l0_1 = some r) ∧ Aside0 (kq ≤ k) ∧ Aside0 (Kd.R (Kd.int .i64) 2 w' w.heap.size (fun _ => True) (.slice Ao5 y224.length co5) y224) ∧ Aside0 (w'.heap[gb223]? = some (.cells #[.int .i64 a0_0, (.slice A0_1 l0_1.length c0_1)] 28 (0, 0))) ∧ Aside0 (Below w.heap.size w w'))
 case atStart => exact ⟨(0), (by first | rfl | (simp; done) | (simp [*]; done)), H', ⟨Nat.le_refl _⟩, ⟨by (with_reducible repeat (first | apply Kd.R_alloc | apply Kd.R_drewN | apply Kd.R_drew)); exact HO226.out⟩, ⟨by (with_reducible repeat (first | refine blk_drewN ?_ _ | refine blk_drew ?_ | refine blk_alloc ?_ _)); exact BK223.out⟩, ⟨by repeat (first | (with_reducible first | exact HB.out | apply below_alloc | apply pw_below_drewN | apply below_drew1 | refine below_set ?_ GE223.out) | exact HB.out)⟩⟩
 case round =>
  clear H'
  (try clear p2); (try clear c5)
  obtain ⟨x7_1, rfl, HA, HK1, HO_5, BK223, HB⟩ := hrel
  cases gk with
  | zero => exact absurd HA.out (by simp [impl_Hex_joiner.l0])
  | succ k1 =>
   have H := HA.out
   clear HA
   simp only [impl_Hex_joiner.l0] at H
   by_cases c6 : x7_1 < (y224.length : Int)
   ·rw [if_pos c6] at H
    have c6b0 : decide (x7_1 < (y224.length : Int)) = true := decide_eq_true c6
    clear c6
    by_cases c7 : 0 ≤ x7_1
    ·rw [if_pos c7] at H
     have c7b0 : decide (0 ≤ x7_1) = true := decide_eq_true c7
     clear c7
     by_cases c8 : x7_1 < (y224.length : Int)
     ·rw [if_pos c8] at H
      have c8b0 : decide (x7_1 < (y224.length : Int)) = true := decide_eq_true c8
      clear c8
      replace H := Option.bind_eq_some_iff.mp H
      obtain ⟨t228, A90, H⟩ := H
      replace H : (if t228 = 0 then (some (rd y224 x7_1)) else (impl_Hex_joiner.l0 k1 y224 (y224.length : Int) (wrap64 (x7_1 + 1)) a0_0 l0_1)) = some r := H
      have A9 := Aside0.mk A90
      clear A90
      by_cases c10 : t228 = 0
      ·rw [if_pos c10] at H
       have c10b0 : (t228 == 0) = true := beq_iff_eq.mpr c10
       have c10b1 : (t228 != 0) = false := bne_eq_false_iff_eq.mpr c10
       clear c10
       obtain rfl := Option.some.inj H
       have p227 : 0 ≤ (x7_1 : Int) := oda
       have q227 : x7_1 < (y224.length : Int) := oda
       obtain ⟨ad227, e227, hx227_0⟩ := Kd.at_int (Kd.R_reads' HO_5.out).2.2 x7_1 p227 q227
       cases e227
       replace p227 := eq_true p227
       replace q227 := eq_true q227
       have hcz11_0 : wr.cell? ⟨gb223, 0, none⟩ = some (.int .i64 a0_0) := (blk_cell BK223.out 0).trans rfl
       have hcz11_1 : wr.cell? ⟨gb223, 1, none⟩ = some (.slice A0_1 l0_1.length c0_1) := (blk_cell BK223.out 1).trans rfl
       have hfz11_0 := blk_frozen BK223.out 0
       have hfz11_1 := blk_frozen BK223.out 1
       go_wp2_with (first | ((with_reducible refine gate_callee (f := 82) rfl ?_); refine goesA_ (some 13) rfl rfl Try.func82 (by kernel_rfl) rfl #[.agg #[.int .i64 a0_0, .slice A0_1 l0_1.length c0_1], .int .i64 (rd y224 x7_1)] rfl ?_; (with_reducible refine (impl_Hex_need.calls k1 a0_0 _ _ l0_1 (rd y224 x7_1) t228 _ ?side1 ?side2 A9.out).mono ?_); (case side1 => repeat (first | exact (Kd.C_below HR0_1.out HB.out) | (with_reducible refine Kd.C_alloc ?_ _) | (with_reducible refine Kd.C_drewN ?_ _) | (with_reducible refine Kd.C_drew ?_))); (case side2 => exact HC0_1.out); rintro e w12 ⟨rfl, hb⟩; refine ⟨_, rfl, ?_⟩; have n0_ := Aside0.mk (Kd.R_below (by (with_reducible repeat (first | apply Kd.R_alloc | apply Kd.R_drewN | apply Kd.R_drew)); exact HO_5.out) hb); have n1_ := Aside0.mk (blk_below (g := gb223) (o := .cells #[.int .i64 a0_0, .slice A0_1 l0_1.length c0_1] 28 (0, 0)) (by (with_reducible repeat (first | refine blk_drewN ?_ _ | refine blk_drew ?_ | refine blk_alloc ?_ _)); exact BK223.out) hb); have n2_ := Aside0.mk (below_step (by repeat (first | (with_reducible first | exact HB.out | apply below_alloc | apply pw_below_drewN | apply below_drew1 | refine below_set ?_ GE223.out) | exact HB.out)) hb); clear HO_5; clear BK223; clear HB; have HO_5 := n0_; have BK223 := n1_; have HB := n2_; clear n0_ n1_ n2_; (try clear hb); (try clear hb2); (try clear hk); (try clear hi)))
       go_ret
       exact ⟨by first | rfl | (simp [errW_none, errW_some] <;> rfl) | (simp [*, errW_none, errW_some] <;> rfl), by repeat (first | (with_reducible first | exact HB.out | apply below_alloc | apply pw_below_drewN | apply below_drew1 | refine below_set ?_ GE223.out) | exact HB.out)⟩
      ·rw [if_neg c10] at H
       have c10b0 : (t228 == 0) = false := beq_eq_false_iff_ne.mpr c10
       have c10b1 : (t228 != 0) = true := bne_iff_ne.mpr c10
       have H' := Aside0.mk H
       clear H
       have p227 : 0 ≤ (x7_1 : Int) := oda
       have q227 : x7_1 < (y224.length : Int) := oda
       obtain ⟨ad227, e227, hx227_0⟩ := Kd.at_int (Kd.R_reads' HO_5.out).2.2 x7_1 p227 q227
       cases e227
       replace p227 := eq_true p227
       replace q227 := eq_true q227
       have hcz13_0 : wr.cell? ⟨gb223, 0, none⟩ = some (.int .i64 a0_0) := (blk_cell BK223.out 0).trans rfl
       have hcz13_1 : wr.cell? ⟨gb223, 1, none⟩ = some (.slice A0_1 l0_1.length c0_1) := (blk_cell BK223.out 1).trans rfl
       have hfz13_0 := blk_frozen BK223.out 0
       have hfz13_1 := blk_frozen BK223.out 1
       go_wp2_with (first | ((with_reducible refine gate_callee (f := 82) rfl ?_); refine goesA_ (some 13) rfl rfl Try.func82 (by kernel_rfl) rfl #[.agg #[.int .i64 a0_0, .slice A0_1 l0_1.length c0_1], .int .i64 (rd y224 x7_1)] rfl ?_; (with_reducible refine (impl_Hex_need.calls k1 a0_0 _ _ l0_1 (rd y224 x7_1) t228 _ ?side1 ?side2 A9.out).mono ?_); (case side1 => repeat (first | exact (Kd.C_below HR0_1.out HB.out) | (with_reducible refine Kd.C_alloc ?_ _) | (with_reducible refine Kd.C_drewN ?_ _) | (with_reducible refine Kd.C_drew ?_))); (case side2 => exact HC0_1.out); rintro e w14 ⟨rfl, hb⟩; refine ⟨_, rfl, ?_⟩; have n0_ := Aside0.mk (Kd.R_below (by (with_reducible repeat (first | apply Kd.R_alloc | apply Kd.R_drewN | apply Kd.R_drew)); exact HO_5.out) hb); have n1_ := Aside0.mk (blk_below (g := gb223) (o := .cells #[.int .i64 a0_0, .slice A0_1 l0_1.length c0_1] 28 (0, 0)) (by (with_reducible repeat (first | refine blk_drewN ?_ _ | refine blk_drew ?_ | refine blk_alloc ?_ _)); exact BK223.out) hb); have n2_ := Aside0.mk (below_step (by repeat (first | (with_reducible first | exact HB.out | apply below_alloc | apply pw_below_drewN | apply below_drew1 | refine below_set ?_ GE223.out) | exact HB.out)) hb); clear HO_5; clear BK223; clear HB; have HO_5 := n0_; have BK223 := n1_; have HB := n2_; clear n0_ n1_ n2_; (try clear hb); (try clear hb2); (try clear hk); (try clear hi)))
       go_roundg k1
       case measure => have := HK1.out; omega
       case rel => exact ⟨(wrap64 (x7_1 + 1)), (by first | rfl | (simp; done) | (simp [*]; done)), H', ⟨by have := HK1.out; omega⟩, ⟨by (with_reducible repeat (first | apply Kd.R_alloc | apply Kd.R_drewN | apply Kd.R_drew)); exact HO_5.out⟩, ⟨by (with_reducible repeat (first | refine blk_drewN ?_ _ | refine blk_drew ?_ | refine blk_alloc ?_ _)); exact BK223.out⟩, ⟨by repeat (first | (with_reducible first | exact HB.out | apply below_alloc | apply pw_below_drewN | apply below_drew1 | refine below_set ?_ GE223.out) | exact HB.out)⟩⟩
     ·rw [if_neg c8] at H
      exact absurd H (by simp)
    ·rw [if_neg c7] at H
     exact absurd H (by simp)
   ·rw [if_neg c6] at H
    have c6b0 : decide (x7_1 < (y224.length : Int)) = false := decide_eq_false c6
    clear c6
    obtain rfl := Option.some.inj H
    go_wp2
    go_ret
    exact ⟨by first | rfl | (simp [errW_none, errW_some] <;> rfl) | (simp [*, errW_none, errW_some] <;> rfl), by repeat (first | (with_reducible first | exact HB.out | apply below_alloc | apply pw_below_drewN | apply below_drew1 | refine below_set ?_ GE223.out) | exact HB.out)⟩

end Go.Proofs.Ytbmiojnkfgcfoaa.F
