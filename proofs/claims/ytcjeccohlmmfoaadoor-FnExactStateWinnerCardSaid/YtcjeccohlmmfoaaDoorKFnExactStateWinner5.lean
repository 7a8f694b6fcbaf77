-- written by the session's program xp.py over the kit's print program, and by hand; texts joined by pack.py
import Derived.Test.YtcjeccohlmmfoaaDoorKFnExactStateWinner4
namespace Go.Proofs.YtcjeccohlmmfoaaDoor.F
open Go.RowKit Go.Proofs.YtcjeccohlmmfoaaDoorW.PrintWords Go.Proofs.YtcjeccohlmmfoaaDoorW.PrintLast Go.Proofs.YtcjeccohlmmfoaaDoorW.PrintMore
attribute [local go_sem] max2_int min2_int max_two min_two max_three min_three max_four min_four   -- for this text's walks alone
set_option linter.unusedVariables false
set_option linter.unusedSimpArgs false

-- needs: 35 (the codes of a net and a state)
def charOk (b : UInt8) : Bool := b == 46 || b == 115 || b == 99
def stOk (l : List (List Int)) (s : ByteArray) : Bool := decide (s.size = l.length) && s.data.toList.all charOk
def stCode (p : Int) (l : List (List Int)) (s : ByteArray) : Int := if isNetV p l = true then (if stOk l s = true then 0 else 2) else 1
theorem dropWhile_nil {α : Type} (p : α → Bool) : ∀ (l : List α), l.dropWhile p = [] ↔ l.all p = true
  | [] => by simp
  | a :: l => by
    rw [List.dropWhile_cons, List.all_cons]
    cases h : p a
    · simp
    · simpa using dropWhile_nil p l
theorem all_dropWhile {α : Type} (p : α → Bool) : ∀ (l : List α), (l.dropWhile p).all p = true → l.all p = true
  | [], h => h
  | a :: l, h => by
    rw [List.dropWhile_cons] at h
    cases hp : p a
    · rw [hp] at h; simpa using h
    · rw [hp, if_pos rfl] at h
      rw [List.all_cons, hp, all_dropWhile p l h]; rfl
theorem trimS_nil (l cs : List UInt8) : Lib.trimS l cs = [] ↔ l.all (cs.contains ·) = true := by
  unfold Lib.trimS Lib.trimLeftS Lib.trimRightS
  rw [dropWhile_nil, List.all_reverse]
  constructor
  · intro h
    have := all_dropWhile _ _ h
    rwa [List.all_reverse] at this
  · intro h
    have h2 : l.reverse.all (cs.contains ·) = true := by rwa [List.all_reverse]
    rw [(dropWhile_nil _ _).2 h2]; rfl
theorem trim_ok (s : ByteArray) (hs : s.size ≤ 9223372036854775807) : ∃ t, strings_Trim.f s (⟨#[46, 115, 99]⟩ : ByteArray) = some t ∧ (t.toList == ([] : List UInt8)) = s.data.toList.all charOk := by
  refine ⟨trimV s ⟨#[46, 115, 99]⟩, ?_, ?_⟩
  · unfold strings_Trim.f
    rw [if_pos ⟨hs, by decide, by decide⟩]
  · have e : (trimV s ⟨#[46, 115, 99]⟩).toList = Lib.trimS s.data.toList [46, 115, 99] := by
      unfold trimV
      rw [Go.ByteArray.toList_eq]
    have ec : (fun b : UInt8 => ([46, 115, 99] : List UInt8).contains b) = charOk := by
      funext b; rw [Bool.eq_iff_iff]; simp [charOk, or_assoc]
    rw [e, Bool.eq_iff_iff, beq_iff_eq, trimS_nil, ec]
theorem implCode_ev (p : Int) (l : List (List Int)) (s : ByteArray) (hs : s.size ≤ 9223372036854775807) : Ev (fun k => impl_stateOfCode.f k p l s) (stCode p l s) := by
  have hf := fun b => first_ev (isNetV p l) b
  have hi : ∀ x y, impl_IsNet.f x y = some (isNetV x y) := fun _ _ => rfl
  unfold impl_stateOfCode.f stCode stOk
  by_cases h : s.size = l.length
  · obtain ⟨t, ht, hb⟩ := trim_ok s hs
    refine Ev.congr (f := fun k => impl_first.f k [⟨isNetV p l, 1⟩, ⟨s.data.toList.all charOk, 2⟩]) (fun k => ?_) ?_
    · rw [if_pos (by omega), ht]
      simp only [Option.bind_some, hi, hb]
      cases impl_first.f k [⟨isNetV p l, 1⟩, ⟨s.data.toList.all charOk, 2⟩] <;> rfl
    · rw [decide_eq_true h, Bool.true_and]; exact hf _
  · refine Ev.congr (f := fun k => impl_first.f k [⟨isNetV p l, 1⟩, ⟨false, 2⟩]) (fun k => ?_) ?_
    · rw [if_neg (by omega)]
      simp only [Option.bind_some, hi]
      cases impl_first.f k [⟨isNetV p l, 1⟩, ⟨false, 2⟩] <;> rfl
    · rw [decide_eq_false h, Bool.false_and]; exact hf false
theorem char_bt (s : ByteArray) (i : Nat) (h : i < s.size) : charOk (s.data.toList[i]'(by simpa using h)) = true ↔ (bt s (i : Int) = 46 ∨ bt s (i : Int) = 115 ∨ bt s (i : Int) = 99) := by
  rw [bt_data s i h]
  generalize s.data.toList[i]'(by simpa using h) = b
  have e : ∀ c : Nat, c < 256 → (((b.toNat : Int) = (c : Int)) ↔ b = UInt8.ofNat c) := fun c hc => by
    constructor
    · intro h
      apply UInt8.toNat_inj.1
      rw [UInt8.toNat_ofNat']
      omega
    · rintro rfl
      rw [UInt8.toNat_ofNat']
      omega
  unfold charOk
  rw [Bool.or_eq_true, Bool.or_eq_true, beq_iff_eq, beq_iff_eq, beq_iff_eq]
  have h1 := e 46 (by omega)
  have h2 := e 115 (by omega)
  have h3 := e 99 (by omega)
  constructor
  · rintro ((h | h) | h)
    · exact .inl (h1.2 h)
    · exact .inr (.inl (h2.2 h))
    · exact .inr (.inr (h3.2 h))
  · rintro (h | h | h)
    · exact .inl (.inl (h1.1 h))
    · exact .inl (.inr (h2.1 h))
    · exact .inr (h3.1 h)
theorem stOk_iff (l : List (List Int)) (s : ByteArray) : stOk l s = true ↔ (s.size = l.length ∧ ValidS s) := by
  unfold stOk
  rw [Bool.and_eq_true, decide_eq_true_iff, List.all_eq_true]
  refine and_congr_right fun _ => ⟨fun h i hi => ?_, fun h b hb => ?_⟩
  · exact (char_bt s i hi).1 (h _ (List.getElem_mem _))
  · obtain ⟨i, hi, rfl⟩ := List.getElem_of_mem hb
    have hi' : i < s.size := by simpa using hi
    exact (char_bt s i hi').2 (h i hi')
/-- The sets of a state, walked up to i. -/
theorem setsL_ev (s : ByteArray) (hn : s.size ≤ 10) : ∀ (d i : Nat), i + d = s.size → (∀ j : Nat, j < i → bt s (j : Int) = 46 ∨ bt s (j : Int) = 115 ∨ bt s (j : Int) = 99) →
    Ev (fun k => spec_l10Sets.l0 k s (bitsN (fun j => bt s (j : Int) == 115) i : Nat) (bitsN (fun j => bt s (j : Int) == 99) i : Nat) (i : Int)) (if s.data.toList.all charOk = true then ((keptS s : Int), (outS s : Int), true) else (0, 0, false)) := by
  intro d
  induction d with
  | zero =>
    intro i hi hv
    obtain rfl : i = s.size := by omega
    have ha : s.data.toList.all charOk = true := List.all_eq_true.2 fun b hb => by
      obtain ⟨j, hj, rfl⟩ := List.getElem_of_mem hb
      have hj' : j < s.size := by simpa using hj
      exact (char_bt s j hj').2 (hv j hj')
    refine Ev.step (f := fun _ => some ((keptS s : Int), (outS s : Int), true)) (fun k => ?_) (Ev.congr (fun k => by rw [if_pos ha]) (Ev.now _))
    simp only [spec_l10Sets.l0]
    rw [if_neg (by omega)]; rfl
  | succ d ih =>
    intro i hi hv
    have hlt : i < s.size := by omega
    have hu : IntKind.u64.wrap (i : Int) = (i : Int) := u64_nat i (by omega)
    have hw : wrap64 ((i : Int) + 1) = ((i + 1 : Nat) : Int) := by unfold wrap64; omega
    have hsh : shl .i64 1 (i : Int) = ((2 ^ i : Nat) : Int) := shl_nat i (by omega)
    have h2i : 2 ^ i ≤ 1024 := Nat.pow_le_pow_right (by omega) (by omega : i ≤ 10)
    have k1 : bitsN (fun j => bt s (j : Int) == 115) i < 1024 := Nat.lt_of_lt_of_le (bitsN_lt _ _) h2i
    have k2 : bitsN (fun j => bt s (j : Int) == 99) i < 1024 := Nat.lt_of_lt_of_le (bitsN_lt _ _) h2i
    by_cases h1 : bt s (i : Int) = 115
    · have := ih (i + 1) (by omega) (fun j hj => by
        by_cases e : j = i
        · subst e; exact .inr (.inl h1)
        · exact hv j (by omega))
      rw [show bitsN (fun j => bt s (j : Int) == 115) (i + 1) = bitsN (fun j => bt s (j : Int) == 115) i ||| 2 ^ i from by rw [bitsN, if_pos (by rw [h1]; rfl)], show bitsN (fun j => bt s (j : Int) == 99) (i + 1) = bitsN (fun j => bt s (j : Int) == 99) i from by rw [bitsN, if_neg (by rw [h1]; decide)]] at this
      refine Ev.step (fun k => ?_) this
      simp only [spec_l10Sets.l0]
      rw [if_pos (by omega), if_pos (by omega), if_pos h1, hu, if_pos (by omega), hsh, bits_or_nat _ _ (by omega) (by omega), hw]
    · by_cases h2 : bt s (i : Int) = 99
      · have := ih (i + 1) (by omega) (fun j hj => by
          by_cases e : j = i
          · subst e; exact .inr (.inr h2)
          · exact hv j (by omega))
        rw [show bitsN (fun j => bt s (j : Int) == 115) (i + 1) = bitsN (fun j => bt s (j : Int) == 115) i from by rw [bitsN, if_neg (by rw [h2]; decide)], show bitsN (fun j => bt s (j : Int) == 99) (i + 1) = bitsN (fun j => bt s (j : Int) == 99) i ||| 2 ^ i from by rw [bitsN, if_pos (by rw [h2]; rfl)]] at this
        refine Ev.step (fun k => ?_) this
        simp only [spec_l10Sets.l0]
        rw [if_pos (by omega), if_pos (by omega), if_neg h1, if_pos h2, hu, if_pos (by omega), hsh, bits_or_nat _ _ (by omega) (by omega), hw]
      · by_cases h3 : bt s (i : Int) = 46
        · have := ih (i + 1) (by omega) (fun j hj => by
            by_cases e : j = i
            · subst e; exact .inl h3
            · exact hv j (by omega))
          rw [show bitsN (fun j => bt s (j : Int) == 115) (i + 1) = bitsN (fun j => bt s (j : Int) == 115) i from by rw [bitsN, if_neg (by rw [h3]; decide)], show bitsN (fun j => bt s (j : Int) == 99) (i + 1) = bitsN (fun j => bt s (j : Int) == 99) i from by rw [bitsN, if_neg (by rw [h3]; decide)]] at this
          refine Ev.step (fun k => ?_) this
          simp only [spec_l10Sets.l0]
          rw [if_pos (by omega), if_pos (by omega), if_neg h1, if_neg h2, if_pos h3, hw]
        · have hna : ¬ s.data.toList.all charOk = true := fun ha => by
            have := (char_bt s i hlt).1 (List.all_eq_true.1 ha _ (List.getElem_mem _))
            omega
          refine Ev.step (f := fun _ => some (0, 0, false)) (fun k => ?_) (Ev.congr (fun k => by rw [if_neg hna]) (Ev.now _))
          simp only [spec_l10Sets.l0]
          rw [if_pos (by omega), if_pos (by omega), if_neg h1, if_neg h2, if_neg h3]
theorem specSets_ev (p : Int) (l : List (List Int)) (s : ByteArray) (hl : l.length ≤ 10) : Ev (fun k => spec_l10Sets.f k p l s) (if stOk l s = true then ((keptS s : Int), (outS s : Int), true) else (0, 0, false)) := by
  unfold spec_l10Sets.f stOk
  by_cases h : s.size = l.length
  · have := setsL_ev s (by omega) s.size 0 (by omega) (fun j hj => by omega)
    refine Ev.congr (fun k => by rw [if_pos (by omega)]) (Ev.congr (fun k => rfl) ?_)
    rw [decide_eq_true h, Bool.true_and]
    exact this
  · rw [decide_eq_false h, Bool.false_and, if_neg (by simp)]
    exact Ev.congr (f := fun _ => some (0, 0, false)) (fun k => by rw [if_neg (by omega)]) (Ev.now _)
theorem specCode_ev (p : Int) (l : List (List Int)) (s : ByteArray) (hl : l.length ≤ 9223372036854775807) : Ev (fun k => spec_l10Code.f k p l s) (stCode p l s) := by
  unfold spec_l10Code.f stCode
  refine Ev.bind (l10Is_ev p l hl) ?_
  by_cases h : isNetV p l = true
  · rw [if_pos h]
    refine Ev.congr (fun k => by rw [if_pos h]) (Ev.bind (specSets_ev p l s (netEdges h).1.1) ?_)
    by_cases h2 : stOk l s = true
    · exact Ev.congr (f := fun _ => some 0) (fun k => by simp [h2]) (Ev.congr (fun k => by rw [if_pos h2]) (Ev.now _))
    · exact Ev.congr (f := fun _ => some 2) (fun k => by simp [h2]) (Ev.congr (fun k => by rw [if_neg h2]) (Ev.now _))
  · rw [if_neg h]
    exact Ev.congr (f := fun _ => some 1) (fun k => by rw [if_neg h]) (Ev.now _)
theorem stCode_zero {p : Int} {l : List (List Int)} {s : ByteArray} (h : stCode p l s = 0) : isNetV p l = true ∧ stOk l s = true := by
  unfold stCode at h
  by_cases h1 : isNetV p l = true
  · rw [if_pos h1] at h
    by_cases h2 : stOk l s = true
    · exact ⟨h1, h2⟩
    · rw [if_neg h2] at h; omega
  · rw [if_neg h1] at h; omega
-- The reference's winner is the winner.
def KOk (l : List (List Int)) (known : List Int) : Prop := ∀ s b, s.size = l.length → ValidS s → known.getD (numS s b) 0 = 0 ∨ known.getD (numS s b) 0 = netWin l s b
theorem getD_set_sameI (l : List Int) (i : Nat) (a : Int) (h : i < l.length) : (l.set i a).getD i 0 = a := by
  rw [List.getD_eq_getElem?_getD, List.getElem?_set_self (by simpa using h)]; rfl
theorem getD_set_neI (l : List Int) (i j : Nat) (a : Int) (h : i ≠ j) : (l.set i a).getD j 0 = l.getD j 0 := by
  rw [List.getD_eq_getElem?_getD, List.getD_eq_getElem?_getD, List.getElem?_set_ne h]
theorem KOk.put {l : List (List Int)} {known : List Int} (h : KOk l known) {s : ByteArray} {b : Bool} (hs : s.size = l.length) (hv : ValidS s) : KOk l (known.set (numS s b) (netWin l s b)) := by
  intro t c ht hvt
  by_cases e : numS s b = numS t c
  · obtain ⟨rfl, rfl⟩ := numS_inj (hs.trans ht.symm) hv hvt e
    by_cases hl : numS s b < known.length
    · exact .inr (getD_set_sameI _ _ _ hl)
    · rw [List.set_eq_of_length_le (by omega)]; exact h s b hs hv
  · rw [getD_set_neI _ _ _ _ e]; exact h t c ht hvt
theorem numS_lt (s : ByteArray) (b : Bool) : numS s b < 2 * (2 ^ s.size * 2 ^ s.size) := by
  have h1 : keptS s < 2 ^ s.size := bitsN_lt _ _
  have h2 : outS s < 2 ^ s.size := bitsN_lt _ _
  unfold numS
  generalize keptS s = K at *
  generalize outS s = O at *
  generalize 2 ^ s.size = B at *
  have : (K + 1) * B ≤ B * B := Nat.mul_le_mul_right B h1
  have e : (K + 1) * B = K * B + B := Nat.succ_mul K B
  split <;> omega
theorem shlN (K n : Nat) (hn : n ≤ 10) (hK : K < 1024) : shl .i64 (K : Int) (n : Int) = ((K * 2 ^ n : Nat) : Int) := by
  have h2 : 2 ^ n ≤ 1024 := Nat.pow_le_pow_right (by omega) hn
  have hm : K * 2 ^ n ≤ 1024 * 1024 := Nat.mul_le_mul (by omega) h2
  unfold shl
  have e : min ((n : Int).toNat) IntKind.i64.bits = n := by
    have : IntKind.i64.bits = 64 := rfl
    omega
  rw [e]
  have e2 : (K : Int) * 2 ^ n = ((K * 2 ^ n : Nat) : Int) := by push_cast; rfl
  rw [e2, i64_nat _ (by omega)]
theorem num_val (s : ByteArray) (b : Bool) (hs : s.size ≤ 10) : wrap64 ((wrap64 ((wrap64 ((Go.bits .or .i64 (shl .i64 ((keptS s : Nat) : Int) (s.size : Int)) ((outS s : Nat) : Int)) * 2)) + ownV b)) - 1) = (numS s b : Int) := by
  have h2 : 2 ^ s.size ≤ 1024 := Nat.pow_le_pow_right (by omega) hs
  have h1 : keptS s < 2 ^ s.size := bitsN_lt _ _
  have h3 : outS s < 2 ^ s.size := bitsN_lt _ _
  have hm : keptS s * 2 ^ s.size ≤ 1024 * 1024 := Nat.mul_le_mul (by omega) h2
  rw [shlN _ _ hs (by omega), bits_or_nat _ _ (by omega) (by omega)]
  have e : keptS s * 2 ^ s.size ||| outS s = keptS s * 2 ^ s.size + outS s := by
    rw [Nat.mul_comm]; exact (Nat.two_pow_add_eq_or_of_lt h3 _).symm
  rw [e]
  unfold numS
  generalize keptS s * 2 ^ s.size = X at *
  generalize outS s = O at *
  cases b
  · show wrap64 (wrap64 (wrap64 (((X + O : Nat) : Int) * 2) + 2) - 1) = _
    unfold wrap64; simp; omega
  · show wrap64 (wrap64 (wrap64 (((X + O : Nat) : Int) * 2) + 1) - 1) = _
    unfold wrap64; simp; omega
theorem win_yes {l : List (List Int)} {s : ByteArray} {b : Bool} (h0 : ovV l s = 0) {j : Nat} (hj : j < s.size) (hf : bt s (j : Int) = 46) (h : netWin l (afterV s j b) (!b) = ownV b) : netWin l s b = ownV b := by
  rw [netWin_eq, if_pos h0, if_pos]
  exact List.any_eq_true.2 ⟨(j : Int), mem_freeV.2 ⟨j, rfl, hj, hf⟩, beq_iff_eq.2 h⟩
theorem win_no {l : List (List Int)} {s : ByteArray} {b : Bool} (h0 : ovV l s = 0) (h : ∀ j : Nat, j < s.size → bt s (j : Int) = 46 → netWin l (afterV s j b) (!b) ≠ ownV b) : netWin l s b = 3 - ownV b := by
  rw [netWin_eq, if_pos h0, if_neg]
  intro ha
  obtain ⟨x, hx, hw⟩ := List.any_eq_true.1 ha
  obtain ⟨j, rfl, hj, hf⟩ := mem_freeV.1 hx
  exact h j hj hf (beq_iff_eq.1 hw)
theorem specWin_ev (p : Int) (l : List (List Int)) (hl : NetEdges l) : ∀ (d : Nat) (s : ByteArray) (b : Bool) (known : List Int), (freeV s).length < d → s.size = l.length → ValidS s → KOk l known → known.length = 2 * (2 ^ l.length * 2 ^ l.length) →
    ∃ known' : List Int, Ev (fun k => spec_l10Winner.f k p l (keptS s : Nat) (outS s : Nat) (ownV b) known) (netWin l s b, known') ∧ KOk l known' ∧ known'.length = known.length := by
  intro d
  induction d with
  | zero => intro s b known hd; omega
  | succ d ih =>
    intro s b known hd hs hv hk hlen
    have hn := hl.1
    have hu : IntKind.u64.wrap ((l.length : Nat) : Int) = (s.size : Int) := by rw [u64_nat _ (by omega), hs]
    have hnum := num_val s b (by omega)
    have hlt := numS_lt s b
    rw [hs] at hlt
    have hor := ownV_range b
    have hK : keptS s < 1024 := Nat.lt_of_lt_of_le (bitsN_lt _ _) (Nat.pow_le_pow_right (by omega) (by omega : s.size ≤ 10))
    have hO : outS s < 1024 := Nat.lt_of_lt_of_le (bitsN_lt _ _) (Nat.pow_le_pow_right (by omega) (by omega : s.size ≤ 10))
    by_cases hp : known.getD (numS s b) 0 > 0
    · refine ⟨known, ?_, hk, rfl⟩
      have e : known.getD (numS s b) 0 = netWin l s b := by
        rcases hk s b hs hv with e | e
        · omega
        · exact e
      refine Ev.step (f := fun _ => some (netWin l s b, known)) (fun k => ?_) (Ev.now _)
      simp only [spec_l10Winner.f]
      rw [hu, hnum, if_pos (by omega), if_pos (by omega), if_pos (by rw [hlen]; omega), rd_nat, if_pos hp, e]
    · have loop : ovV l s = 0 → ∀ (e i : Nat) (w : Int) (kn : List Int), i + e = s.size → KOk l kn → kn.length = known.length → ((w = ownV b ∧ netWin l s b = ownV b) ∨ (w = 3 - ownV b ∧ ∀ j : Nat, j < i → bt s (j : Int) = 46 → netWin l (afterV s j b) (!b) ≠ ownV b)) →
          ∃ kn' : List Int, Ev (fun k => spec_l10Winner.l0 k (keptS s : Nat) (outS s : Nat) (ownV b) kn (s.size : Int) (numS s b : Int) w (i : Int) p l) (netWin l s b, kn') ∧ KOk l kn' ∧ kn'.length = known.length := by
        intro h0 e
        have fin : ∀ (kn : List Int) (i : Nat), KOk l kn → kn.length = known.length → ∀ w : Int, w = netWin l s b → Ev (fun k => spec_l10Winner.j1 k (keptS s : Nat) (outS s : Nat) (ownV b) kn (s.size : Int) (numS s b : Int) w (i : Int) false p l) (netWin l s b, kn.set (numS s b) (netWin l s b)) ∧ KOk l (kn.set (numS s b) (netWin l s b)) ∧ (kn.set (numS s b) (netWin l s b)).length = known.length := by
          intro kn i hkn hkl w hw
          refine ⟨Ev.step (f := fun _ => some (netWin l s b, kn.set (numS s b) (netWin l s b))) (fun k => ?_) (Ev.now _), hkn.put hs hv, by simpa using hkl⟩
          simp only [spec_l10Winner.j1]
          rw [if_neg (by simp), if_pos (by omega), if_pos (by rw [hkl, hlen]; omega), hw, Int.toNat_natCast]
        induction e with
        | zero =>
          intro i w kn hi hkn hkl hw
          have ew : w = netWin l s b := by
            rcases hw with ⟨rfl, h⟩ | ⟨rfl, h⟩
            · exact h.symm
            · exact (win_no h0 fun j hj hf => h j (by omega) hf).symm
          obtain ⟨f1, f2, f3⟩ := fin kn i hkn hkl w ew
          refine ⟨_, Ev.step (fun k => ?_) f1, f2, f3⟩
          simp only [spec_l10Winner.l0]
          rw [if_neg (by omega)]
        | succ e ihe =>
          intro i w kn hi hkn hkl hw
          have hlt2 : i < s.size := by omega
          rcases hw with ⟨rfl, h⟩ | ⟨rfl, h⟩
          · obtain ⟨f1, f2, f3⟩ := fin kn i hkn hkl _ h.symm
            refine ⟨_, Ev.step (fun k => ?_) f1, f2, f3⟩
            simp only [spec_l10Winner.l0]
            rw [if_pos (by omega)]
            have : (ownV b != ownV b) = false := by simp
            rw [this]
          · have hne : (3 - ownV b != ownV b) = true := bne_iff_ne.2 (by omega)
            have hui : IntKind.u64.wrap ((i : Int) + 1) = ((i + 1 : Nat) : Int) := by
              have := u64_nat (i + 1) (by omega)
              rw [← this]; rfl
            have hbit : Go.bits .and .i64 (shr .i64 (Go.bits .or .i64 ((keptS s : Nat) : Int) ((outS s : Nat) : Int)) (i : Int)) 1 = if bt s (i : Int) = 46 then 0 else 1 := by
              rw [bits_or_nat _ _ (by omega) (by omega)]
              have hor2 : keptS s ||| outS s < 1024 := Nat.or_lt_two_pow (n := 10) hK hO
              rw [bit_nat _ _ (by omega) (by omega), Nat.testBit_or]
              simp only [keptS, outS, bitsN_bit, hlt2, decide_true, Bool.true_and]
              rcases hv i hlt2 with f | f | f <;> rw [f] <;> simp
            have hsh : shl .i64 1 (i : Int) = ((2 ^ i : Nat) : Int) := shl_nat i (by omega)
            have h2i : 2 ^ i ≤ 1024 := Nat.pow_le_pow_right (by omega) (by omega : i ≤ 10)
            by_cases hf : bt s (i : Int) = 46
            · rw [if_pos hf] at hbit
              have hfl := free_less s (i : Int) b (mem_freeV.2 ⟨i, rfl, hlt2, hf⟩)
              obtain ⟨kn1, e1, k1, l1⟩ := ih (afterV s i b) (!b) kn (by omega) ((afterV_size s i b hlt2).trans hs) (validS_after hv i b hlt2) hkn (hkl.trans hlen)
              rw [keptS_after s i b hlt2 hf, outS_after s i b hlt2 hf] at e1
              have more : ∀ (w2 : Int), (w2 = if netWin l (afterV s i b) (!b) = ownV b then ownV b else 3 - ownV b) → ∃ kn' : List Int, Ev (fun k => spec_l10Winner.l0 k (keptS s : Nat) (outS s : Nat) (ownV b) kn1 (s.size : Int) (numS s b : Int) w2 ((i + 1 : Nat) : Int) p l) (netWin l s b, kn') ∧ KOk l kn' ∧ kn'.length = known.length := by
                intro w2 hw2
                refine ihe (i + 1) w2 kn1 (by omega) k1 (l1.trans hkl) ?_
                by_cases hw3 : netWin l (afterV s i b) (!b) = ownV b
                · rw [if_pos hw3] at hw2
                  exact .inl ⟨hw2, win_yes h0 hlt2 hf hw3⟩
                · rw [if_neg hw3] at hw2
                  refine .inr ⟨hw2, fun j hj hfj => ?_⟩
                  by_cases ej : j = i
                  · subst ej; exact hw3
                  · exact h j (by omega) hfj
              obtain ⟨kn2, e2, k2, l2⟩ := more _ rfl
              refine ⟨kn2, ?_, k2, l2⟩
              refine Ev.step (f := fun k => spec_l10Winner.j1 k (keptS s : Nat) (outS s : Nat) (ownV b) kn (s.size : Int) (numS s b : Int) (3 - ownV b) (i : Int) true p l) (fun k => ?_) ?_
              · simp only [spec_l10Winner.l0]
                rw [if_pos (by omega), hne]
              cases b with
              | true =>
                have ho1 : ownV true = 1 := rfl
                have ho2 : ownV (!true) = 2 := rfl
                rw [ho1] at e2 ⊢
                rw [ho1] at hor
                rw [ho2] at e1
                simp only [if_true] at e1
                refine Ev.step (f := fun k => (spec_l10Winner.f k p l (Go.bits .or .i64 ((keptS s : Nat) : Int) (shl .i64 1 (i : Int))) ((outS s : Nat) : Int) 2 kn).bind fun bt367 => (if bt367.1 = 1 then (spec_l10Winner.l0 k (keptS s : Nat) (outS s : Nat) 1 bt367.2 (s.size : Int) (numS s true : Int) 1 ((i + 1 : Nat) : Int) p l) else (spec_l10Winner.l0 k (keptS s : Nat) (outS s : Nat) 1 bt367.2 (s.size : Int) (numS s true : Int) (3 - 1) ((i + 1 : Nat) : Int) p l))) (fun k => ?_) ?_
                · simp only [spec_l10Winner.j1, if_true]
                  rw [if_pos (by omega), hbit, if_neg (by omega), hui]
                · rw [hsh, bits_or_nat _ _ (by omega) (by omega)]
                  refine Ev.bind e1 ?_
                  by_cases hw3 : netWin l (afterV s i true) (!true) = 1
                  · rw [if_pos hw3] at e2
                    exact Ev.congr (fun k => by simp only [hw3, if_true]) e2
                  · rw [if_neg hw3] at e2
                    exact Ev.congr (fun k => by simp only [hw3, if_false]) e2
              | false =>
                have ho1 : ownV false = 2 := rfl
                have ho2 : ownV (!false) = 1 := rfl
                rw [ho1] at e2 ⊢
                rw [ho1] at hor
                rw [ho2] at e1
                simp only [Bool.false_eq_true, if_false] at e1
                refine Ev.step (f := fun k => (spec_l10Winner.f k p l ((keptS s : Nat) : Int) (Go.bits .or .i64 ((outS s : Nat) : Int) (shl .i64 1 (i : Int))) 1 kn).bind fun bt369 => (if bt369.1 = 2 then (spec_l10Winner.l0 k (keptS s : Nat) (outS s : Nat) 2 bt369.2 (s.size : Int) (numS s false : Int) 2 ((i + 1 : Nat) : Int) p l) else (spec_l10Winner.l0 k (keptS s : Nat) (outS s : Nat) 2 bt369.2 (s.size : Int) (numS s false : Int) (3 - 2) ((i + 1 : Nat) : Int) p l))) (fun k => ?_) ?_
                · simp only [spec_l10Winner.j1, if_true]
                  rw [if_pos (by omega), hbit, if_neg (by omega), if_neg (by omega), hui]
                · rw [hsh, bits_or_nat _ _ (by omega) (by omega)]
                  refine Ev.bind e1 ?_
                  by_cases hw3 : netWin l (afterV s i false) (!false) = 2
                  · rw [if_pos hw3] at e2
                    exact Ev.congr (fun k => by simp only [hw3, if_true]) e2
                  · rw [if_neg hw3] at e2
                    exact Ev.congr (fun k => by simp only [hw3, if_false]) e2
            · rw [if_neg hf] at hbit
              obtain ⟨kn2, e2, k2, l2⟩ := ihe (i + 1) (3 - ownV b) kn (by omega) hkn hkl (.inr ⟨rfl, fun j hj hfj => by
                by_cases ej : j = i
                · subst ej; exact absurd hfj hf
                · exact h j (by omega) hfj⟩)
              refine ⟨kn2, ?_, k2, l2⟩
              refine Ev.step (f := fun k => spec_l10Winner.j1 k (keptS s : Nat) (outS s : Nat) (ownV b) kn (s.size : Int) (numS s b : Int) (3 - ownV b) (i : Int) true p l) (fun k => ?_) (Ev.step (fun k => ?_) e2)
              · simp only [spec_l10Winner.l0]
                rw [if_pos (by omega), hne]
              · simp only [spec_l10Winner.j1, if_true]
                rw [if_pos (by omega), hbit, if_pos rfl, hui]
      have head : ∀ (F : Nat → Option (Int × List Int)) (r : Int × List Int), Ev F r → (∀ k, F k = (spec_l10Over.f k p l (keptS s : Nat) (outS s : Nat)).bind fun t365 => (if t365 = 0 then (spec_l10Winner.l0 k (keptS s : Nat) (outS s : Nat) (ownV b) known (s.size : Int) (numS s b : Int) (3 - ownV b) ((0 : Nat) : Int) p l) else (some (t365, (known.set (numS s b) t365))))) → Ev (fun k => spec_l10Winner.f k p l (keptS s : Nat) (outS s : Nat) (ownV b) known) r := by
        intro F r hF hE
        refine Ev.step (f := F) (fun k => ?_) hF
        rw [hE]
        have hw3 : wrap64 (3 - ownV b) = 3 - ownV b := by unfold wrap64; omega
        simp only [spec_l10Winner.f]
        rw [hu, hnum, if_pos (by omega), if_pos (by omega), if_pos (by rw [hlen]; omega), rd_nat, if_neg hp, hw3, Int.toNat_natCast]
        rfl
      by_cases h0 : ovV l s = 0
      · obtain ⟨kn, e1, k1, l1⟩ := loop h0 s.size 0 (3 - ownV b) known (by omega) hk rfl (.inr ⟨rfl, fun j hj => by omega⟩)
        refine ⟨kn, ?_, k1, l1⟩
        refine head _ _ (Ev.bind (specOver_ev p l hl s hs) (f := fun k t365 => if t365 = 0 then (spec_l10Winner.l0 k (keptS s : Nat) (outS s : Nat) (ownV b) known (s.size : Int) (numS s b : Int) (3 - ownV b) ((0 : Nat) : Int) p l) else (some (t365, (known.set (numS s b) t365)))) ?_) (fun k => rfl)
        exact Ev.congr (fun k => by rw [if_pos h0]) e1
      · have ew : netWin l s b = ovV l s := by rw [netWin_eq, if_neg h0]
        refine ⟨known.set (numS s b) (netWin l s b), ?_, hk.put hs hv, by simp⟩
        refine head _ _ (Ev.bind (specOver_ev p l hl s hs) (f := fun k t365 => if t365 = 0 then (spec_l10Winner.l0 k (keptS s : Nat) (outS s : Nat) (ownV b) known (s.size : Int) (numS s b : Int) (3 - ownV b) ((0 : Nat) : Int) p l) else (some (t365, (known.set (numS s b) t365)))) ?_) (fun k => rfl)
        exact Ev.congr (f := fun _ => some (netWin l s b, known.set (numS s b) (netWin l s b))) (fun k => by rw [if_neg h0, ew]) (Ev.now _)
-- needs: 40 (room for what is known of a net)
theorem known_val (p : Int) (l : List (List Int)) (hl : l.length ≤ 10) : spec_l10Known.f p l = some (List.replicate (2 * (2 ^ l.length * 2 ^ l.length)) 0) := by
  have hw : IntKind.u64.wrap (wrap64 (2 * (l.length : Int))) = ((2 * l.length : Nat) : Int) := by
    have e : wrap64 (2 * (l.length : Int)) = ((2 * l.length : Nat) : Int) := by unfold wrap64; omega
    rw [e, u64_nat _ (by omega)]
  have h2 : 2 ^ l.length ≤ 1024 := Nat.pow_le_pow_right (by omega) hl
  have hm : 2 ^ l.length * 2 ^ l.length ≤ 1024 * 1024 := Nat.mul_le_mul h2 h2
  have hs : shl .i64 2 ((2 * l.length : Nat) : Int) = ((2 * (2 ^ l.length * 2 ^ l.length) : Nat) : Int) := by
    unfold shl
    have e : min (((2 * l.length : Nat) : Int).toNat) IntKind.i64.bits = 2 * l.length := by
      have : IntKind.i64.bits = 64 := rfl
      omega
    rw [e]
    have e2 : (2 : Int) * 2 ^ (2 * l.length) = ((2 * (2 ^ l.length * 2 ^ l.length) : Nat) : Int) := by
      rw [← Nat.pow_add, ← Nat.two_mul]; push_cast; rfl
    rw [e2, i64_nat _ (by omega)]
  unfold spec_l10Known.f
  rw [hw, hs, if_pos (by omega), if_pos (by omega), if_pos (by omega), Int.toNat_natCast]
theorem KOk_zero (l : List (List Int)) (n : Nat) : KOk l (List.replicate n 0) := fun s b _ _ => .inl (by
  rw [List.getD_eq_getElem?_getD, List.getElem?_replicate]; split <;> rfl)
/-- The one pure statement of laws_FnExactStateWinner. -/
def laws_FnExactStateWinner.Pure : Prop := ∀ (a0_0 : Int) (l0_1 : List (List Int)) (a1 : ByteArray) (a2 : Bool), (Lit.int .i64 a0_0).wf = true → (l0_1.length ≤ maxLen ∧ ∀ y3_ ∈ l0_1, (y3_.length ≤ maxLen ∧ ∀ y4_ ∈ y3_, (Lit.int .i64 y4_).wf = true)) → a1.size ≤ maxLen → ∃ k, laws_FnExactStateWinner.f k a0_0 l0_1 a1 a2 = some true
/-- A type's readings as data are values of a kind: what an argument of that type is, whatever it holds. -/
def Rdb {α : Type} (P : Program) (t : TypeId) (d : Kd α) (wf : α → Prop) : Prop :=
  ∀ (H : Type) (enc : TypeId × Value → H) (w : World) (base : Nat) (spare : Nat → Bool) (held : Bool) (fuel : Nat) (cs : List Value) (x : DataW H × List MemPlace),
    DataW.trod enc P w base spare held fuel t cs = some x → ∃ a : α, d.K w a cs ∧ wf a
theorem Rdb.int {P : Program} {t : TypeId} {k : IntKind} (ht : P.underlying t = some (.int k)) : Rdb P t (Kd.int k) (fun n => (Lit.int k n).wf = true) := by
  intro H enc w base spare held fuel cs x h
  obtain ⟨n, rfl, _, hw⟩ := DataW.trod_int ht h
  exact ⟨n, rfl, hw⟩
theorem Rdb.bool {P : Program} {t : TypeId} (ht : P.underlying t = some .bool) : Rdb P t Kd.bool (fun _ => True) := by
  intro H enc w base spare held fuel cs x h
  obtain ⟨n, rfl, _⟩ := DataW.trod_bool ht h
  exact ⟨n, rfl, trivial⟩
theorem Rdb.string {P : Program} {t : TypeId} (ht : P.underlying t = some .string) : Rdb P t Kd.string (fun s => s.size ≤ maxLen) := by
  intro H enc w base spare held fuel cs x h
  obtain ⟨s, rfl, _, hs⟩ := DataW.trod_string ht h
  exact ⟨s, rfl, hs⟩
theorem list_choose {α β : Type} {R : Nat → α → β → Prop} : ∀ (n : Nat) (xs : List α), xs.length = n → (∀ i x, xs[i]? = some x → ∃ y, R i x y) → ∃ ys : List β, ys.length = n ∧ ∀ i x y, xs[i]? = some x → ys[i]? = some y → R i x y := by
  intro n xs
  induction xs generalizing n R with
  | nil =>
    intro hl _
    exact ⟨[], by simpa using hl, by intro i x y h; simp at h⟩
  | cons x xs ih =>
    intro hl h
    obtain ⟨y, hy⟩ := h 0 x rfl
    obtain ⟨ys, h1, h2⟩ := ih (R := fun i a b => R (i + 1) a b) (n - 1) (by simp at hl; omega) (fun i a hi => h (i + 1) a (by simpa using hi))
    refine ⟨y :: ys, by simp at hl ⊢; omega, fun i a b ha hb => ?_⟩
    cases i with
    | zero =>
      simp at ha hb
      subst ha hb
      exact hy
    | succ i => exact h2 i a b (by simpa using ha) (by simpa using hb)
theorem Rdb.slice {α : Type} {P : Program} {t e : TypeId} {d : Kd α} {wf : α → Prop} (ht : P.underlying t = some (.slice e)) (hc : P.cellsOf e = d.sz) (h1 : 0 < d.sz) (r : Rdb P e d wf) :
    Rdb P t (Kd.slice e d) (fun l => l.length ≤ maxLen ∧ ∀ x ∈ l, wf x) := by
  intro H enc w base spare held fuel cs x h
  rcases DataW.trod_slice ht h with ⟨rfl, _⟩ | ⟨a, len, cap, elems, rest, n, _, rfl, _, hb, hl, hm, hlen, hel, _, _⟩
  · exact ⟨[], ⟨none, 0, rfl, by simp, Kd.C_nil _ _⟩, by simp, by simp⟩
  · have each : ∀ i (y : DataW H × List MemPlace), elems[i]? = some y → ∃ b : α, ∃ c, w.cells? base (a.add (i * P.cellsOf e)) (P.cellsOf e) = some c ∧ d.K w b c ∧ wf b := by
      intro i y hy
      have hi : i < len := by have := (List.getElem?_eq_some_iff.1 hy).1; omega
      have h2 := hel i hi
      rw [hy, Option.bind_eq_some_iff] at h2
      obtain ⟨c, hcs, htr⟩ := h2
      obtain ⟨b, hK, hw⟩ := r H enc w base spare held n c y htr
      exact ⟨b, c, hcs, hK, hw⟩
    obtain ⟨xs, hx1, hx2⟩ := list_choose (R := fun i _ (b : α) => ∃ c, w.cells? base (a.add (i * P.cellsOf e)) (P.cellsOf e) = some c ∧ d.K w b c ∧ wf b) len elems hlen each
    have get : ∀ i b, xs[i]? = some b → ∃ c, w.cells? base (a.add (i * P.cellsOf e)) (P.cellsOf e) = some c ∧ d.K w b c ∧ wf b := by
      intro i b hb'
      have hi : i < elems.length := by have := (List.getElem?_eq_some_iff.1 hb').1; omega
      exact hx2 i _ b (List.getElem?_eq_getElem hi) hb'
    refine ⟨xs, ⟨some a, cap, by rw [hx1], by omega, ?_⟩, by omega, fun b hb' => ?_⟩
    · refine ⟨rfl, by rw [hx1]; unfold maxLen at hm; omega, fun hp => ⟨a, rfl, fun j b hj => ?_⟩⟩
      obtain ⟨c, hcs, hK, _⟩ := get j b hj
      obtain ⟨_, hcl, hcell⟩ := World.cells?_some hcs
      refine ⟨c, by rw [hcl, hc], hK, fun i u hu => ?_⟩
      have hi : i < P.cellsOf e := by have := (List.getElem?_eq_some_iff.1 hu).1; omega
      have := hcell i hi
      rw [hu] at this
      rw [Addr.add_add] at this
      rw [← hc]
      exact this
    · obtain ⟨i, hi⟩ := List.mem_iff_getElem?.1 hb'
      obtain ⟨_, _, _, hw⟩ := get i b hi
      exact hw
theorem take_all {α : Type} {cs : List α} {n : Nat} (h : cs.length = n) : cs.take n = cs := by rw [← h, List.take_length]
theorem Rdb.struct1 {α : Type} {P : Program} {t : TypeId} {f0 : Field} {d0 : Kd α} {w0 : α → Prop} (ht : P.underlying t = some (.struct #[f0])) (o0 : f0.offset = 0) (c0 : P.cellsOf f0.type = P.cellsOf t) (r0 : Rdb P f0.type d0 w0) : Rdb P t d0 w0 := by
  intro H enc w base spare held fuel cs x h
  obtain ⟨y0, n, _, hl, h0⟩ := ChangeShapes.trod_struct1 ht h
  rw [o0, List.drop_zero, c0, take_all hl] at h0
  exact r0 H enc w base spare held n cs y0 h0
theorem Rdb.struct2 {α β : Type} {P : Program} {t : TypeId} {f0 f1 : Field} {d0 : Kd α} {d1 : Kd β} {w0 : α → Prop} {w1 : β → Prop} (ht : P.underlying t = some (.struct #[f0, f1])) (o0 : f0.offset = 0) (o1 : f1.offset = P.cellsOf f0.type) (cT : P.cellsOf t = P.cellsOf f0.type + P.cellsOf f1.type)
    (r0 : Rdb P f0.type d0 w0) (r1 : Rdb P f1.type d1 w1) : Rdb P t (Kd.pair d0 d1) (fun x => w0 x.1 ∧ w1 x.2) := by
  intro H enc w base spare held fuel cs x h
  obtain ⟨y0, y1, n, _, hl, h0, h1⟩ := ChangeShapes.trod_struct2 ht h
  rw [o0, List.drop_zero] at h0
  rw [o1, List.take_of_length_le (by rw [List.length_drop, hl, cT]; omega)] at h1
  obtain ⟨a, hK0, hw0⟩ := r0 H enc w base spare held n _ y0 h0
  obtain ⟨b, hK1, hw1⟩ := r1 H enc w base spare held n _ y1 h1
  exact ⟨(a, b), ⟨_, _, (List.take_append_drop _ _).symm, hK0, hK1⟩, hw0, hw1⟩
theorem Rdb.struct3 {α β γ : Type} {P : Program} {t : TypeId} {f0 f1 f2 : Field} {d0 : Kd α} {d1 : Kd β} {d2 : Kd γ} {w0 : α → Prop} {w1 : β → Prop} {w2 : γ → Prop} (ht : P.underlying t = some (.struct #[f0, f1, f2])) (o0 : f0.offset = 0) (o1 : f1.offset = P.cellsOf f0.type)
    (o2 : f2.offset = P.cellsOf f0.type + P.cellsOf f1.type) (cT : P.cellsOf t = P.cellsOf f0.type + P.cellsOf f1.type + P.cellsOf f2.type)
    (r0 : Rdb P f0.type d0 w0) (r1 : Rdb P f1.type d1 w1) (r2 : Rdb P f2.type d2 w2) : Rdb P t (Kd.pair d0 (Kd.pair d1 d2)) (fun x => w0 x.1 ∧ w1 x.2.1 ∧ w2 x.2.2) := by
  intro H enc w base spare held fuel cs x h
  obtain ⟨xs, n, _, _, hl, hxl, hf⟩ := DataW.trod_struct ht h
  match xs, hxl with
  | [y0, y1, y2], _ =>
    have h0 : DataW.trod enc P w base spare held n f0.type ((cs.drop f0.offset).take (P.cellsOf f0.type)) = some y0 := by simpa using hf 0 f0 rfl
    have h1 : DataW.trod enc P w base spare held n f1.type ((cs.drop f1.offset).take (P.cellsOf f1.type)) = some y1 := by simpa using hf 1 f1 rfl
    have h2 : DataW.trod enc P w base spare held n f2.type ((cs.drop f2.offset).take (P.cellsOf f2.type)) = some y2 := by simpa using hf 2 f2 rfl
    rw [o0, List.drop_zero] at h0
    rw [o1] at h1
    rw [o2, List.take_of_length_le (by rw [List.length_drop, hl, cT]; omega)] at h2
    obtain ⟨a, hK0, hw0⟩ := r0 H enc w base spare held n _ y0 h0
    obtain ⟨b, hK1, hw1⟩ := r1 H enc w base spare held n _ y1 h1
    obtain ⟨c, hK2, hw2⟩ := r2 H enc w base spare held n _ y2 h2
    refine ⟨(a, b, c), ⟨_, _, (List.take_append_drop (P.cellsOf f0.type) cs).symm, hK0, _, _, ?_, hK1, hK2⟩, hw0, hw1, hw2⟩
    rw [← List.drop_drop, List.take_append_drop]
theorem Rdb.iso {α β : Type} {P : Program} {t : TypeId} {d : Kd α} {wf : α → Prop} (r : Rdb P t d wf) (f : β → α) (g : α → β) (hfg : ∀ a, f (g a) = a) : Rdb P t (Kd.iso d f) (fun b => wf (f b)) := by
  intro H enc w base spare held fuel cs x h
  obtain ⟨a, hK, hw⟩ := r H enc w base spare held fuel cs x h
  exact ⟨g a, by show d.K w (f (g a)) cs; rw [hfg]; exact hK, by show wf (f (g a)); rw [hfg]; exact hw⟩
theorem Rdb.of {α : Type} {P : Program} {t : TypeId} {d : Kd α} {wf : α → Prop} (r : Rdb P t d wf) {H : Type} {enc : TypeId × Value → H} {w : World} {base : Nat} {spare : Nat → Bool} {held : Bool} {v : Value} {x : DataW H} {ps : List MemPlace}
    (h : DataW.Trod enc P w base spare held t v x ps) : ∃ a : α, d.K w a v.cells.toList ∧ wf a := by
  obtain ⟨fuel, hf⟩ := h
  exact r H enc w base spare held fuel _ _ hf

end Go.Proofs.YtcjeccohlmmfoaaDoor.F
