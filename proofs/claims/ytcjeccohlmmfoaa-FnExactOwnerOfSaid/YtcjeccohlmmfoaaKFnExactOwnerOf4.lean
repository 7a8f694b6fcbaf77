-- written by the session's program xp.py over the kit's print program, and by hand; texts joined by pack.py
import Derived.Test.YtcjeccohlmmfoaaKFnExactOwnerOf3
namespace Go.Proofs.Ytcjeccohlmmfoaa.F
open Go.RowKit Go.Proofs.YtcjeccohlmmfoaaW.PrintWords Go.Proofs.YtcjeccohlmmfoaaW.PrintLast Go.Proofs.YtcjeccohlmmfoaaW.PrintMore
attribute [local go_sem] max2_int min2_int max_two min_two max_three min_three max_four min_four   -- for this text's walks alone
set_option linter.unusedVariables false
set_option linter.unusedSimpArgs false

-- needs: 70 (who wins a state, in plain words)
/-- A set that holds a point and is closed under the accepted edges. -/
def goodSet (A : Nat → Bool) (l : List (List Int)) (f M : Nat) : Bool := M.testBit f && (List.range l.length).all fun i => !A i || (M.testBit (ea l i) == M.testBit (eb l i))
theorem goodSet_iff (A : Nat → Bool) (l : List (List Int)) (f M : Nat) : goodSet A l f M = true ↔ (M.testBit f = true ∧ ClosedUnder A l M) := by
  unfold goodSet ClosedUnder
  rw [Bool.and_eq_true, List.all_eq_true]
  refine and_congr_right fun _ => ⟨fun h i hi hA => ?_, fun h i hi => ?_⟩
  · have := h i (List.mem_range.2 hi)
    rw [hA] at this
    simpa using this
  · cases hA : A i
    · rfl
    · simpa using h i (List.mem_range.1 hi) hA
/-- The least closed set: what all closed sets share. -/
def reachN (A : Nat → Bool) (l : List (List Int)) (f : Nat) : Nat := (List.range 256).foldl (fun acc M => if goodSet A l f M = true then acc &&& M else acc) 255
theorem fold_and_bit (g : Nat → Bool) (x : Nat) : ∀ (L : List Nat) (acc : Nat), (L.foldl (fun acc M => if g M = true then acc &&& M else acc) acc).testBit x = (acc.testBit x && L.all fun M => !g M || M.testBit x)
  | [], acc => by simp
  | M :: L, acc => by
    rw [List.foldl_cons, fold_and_bit g x L, List.all_cons]
    by_cases h : g M = true
    · rw [if_pos h, Nat.testBit_and, h]; simp [Bool.and_assoc]
    · rw [if_neg h, Bool.eq_false_iff.2 h]; simp
theorem reachN_eq {A : Nat → Bool} {l : List (List Int)} {f c : Nat} (h : LeastSet A l f c) : reachN A l f = c := by
  obtain ⟨h1, h2, h3, h4⟩ := h
  apply Nat.eq_of_testBit_eq
  intro x
  unfold reachN
  rw [fold_and_bit]
  cases hx : c.testBit x with
  | true =>
    have hx8 : x < 8 := by
      rcases Nat.lt_or_ge x 8 with h | h
      · exact h
      · have : c < 2 ^ x := Nat.lt_of_lt_of_le h1 (Nat.pow_le_pow_right (by omega) h : 2 ^ 8 ≤ 2 ^ x)
        rw [Nat.testBit_lt_two_pow this] at hx
        cases hx
    have e : (255 : Nat).testBit x = true := by
      have : x = 0 ∨ x = 1 ∨ x = 2 ∨ x = 3 ∨ x = 4 ∨ x = 5 ∨ x = 6 ∨ x = 7 := by omega
      rcases this with rfl | rfl | rfl | rfl | rfl | rfl | rfl | rfl <;> decide
    rw [e, Bool.true_and, List.all_eq_true]
    intro M hM
    cases hg : goodSet A l f M with
    | false => rfl
    | true =>
      obtain ⟨g1, g2⟩ := (goodSet_iff A l f M).1 hg
      simp [h4 M g1 g2 x hx]
  | false =>
    rw [Bool.and_eq_false_iff]
    right
    rw [List.all_eq_false]
    refine ⟨c, List.mem_range.2 h1, ?_⟩
    rw [(goodSet_iff A l f c).2 ⟨h2, h3⟩, hx]; simp
theorem reachN_is {l : List (List Int)} (hl : NetEdges l) (A : Nat → Bool) (f : Nat) (hf : f < 8) : LeastSet A l f (reachN A l f) := by
  have h : ∃ c, LeastSet A l f c := by
    obtain ⟨c, _, hc⟩ := reachI_ev (fun x => A x.toNat) l hl f hf
    exact ⟨c, hc.congr (fun i _ => by simp)⟩
  obtain ⟨c, hc⟩ := h
  rw [reachN_eq hc]; exact hc
theorem reachN_of {l : List (List Int)} (hl : NetEdges l) {A : Nat → Bool} {f c : Nat} (hf : f < 8) (h : LeastSet A l f c) : c = reachN A l f := h.eq (reachN_is hl A f hf)
theorem reachI_N (acc : Int → Bool) (l : List (List Int)) (hl : NetEdges l) (f : Nat) (hf : f < 8) :
    Ev (fun k => impl_Net_reached.l0 k acc l 0 (shl .i64 1 (f : Int))) (reachN (fun i => acc (i : Int)) l f : Int) := by
  obtain ⟨c, hc, hL⟩ := reachI_ev acc l hl f hf
  rw [← reachN_of hl hf hL]
  exact hc
/-- Who has won a state: 1 short, 2 cut, 0 none. -/
def ovV (l : List (List Int)) (s : ByteArray) : Int :=
  if (reachN (fun i => bt s (i : Int) == 115) l 0).testBit 1 = true then 1 else if (reachN (fun i => bt s (i : Int) != 99) l 0).testBit 1 = true then 0 else 2
def signV (b : Bool) : ByteArray := if b then ⟨#[115]⟩ else ⟨#[99]⟩
def afterV (s : ByteArray) (k : Int) (b : Bool) : ByteArray := s.extract 0 k.toNat ++ signV b ++ s.extract (k + 1).toNat s.size
def freeV (s : ByteArray) : List Int := chosenTo (fun k => bt s k == 46) s.size
def ownV (b : Bool) : Int := if b then 1 else 2
def netWinN (l : List (List Int)) : Nat → ByteArray → Bool → Int
  | 0, _, _ => 0
  | n + 1, s, b => if ovV l s = 0 then (if (freeV s).any (fun k => netWinN l n (afterV s k b) (!b) == ownV b) = true then ownV b else 3 - ownV b) else ovV l s
theorem mem_chosenTo {p : Int → Bool} : ∀ {n : Nat} {x : Int}, x ∈ chosenTo p n ↔ (0 ≤ x ∧ x < (n : Int) ∧ p x = true)
  | 0, x => by simp [chosenTo]; omega
  | n + 1, x => by
    have ih := mem_chosenTo (p := p) (n := n) (x := x)
    show x ∈ (if p n then chosenTo p n ++ [(n : Int)] else chosenTo p n) ↔ _
    by_cases h : p n = true
    · rw [if_pos h, List.mem_append, ih, List.mem_singleton]
      constructor
      · rintro (⟨h0, h1, h2⟩ | rfl)
        · exact ⟨h0, by omega, h2⟩
        · exact ⟨by omega, by omega, h⟩
      · rintro ⟨h0, h1, h2⟩
        by_cases e : x = n
        · exact .inr e
        · exact .inl ⟨h0, by omega, h2⟩
    · rw [if_neg h, ih]
      constructor
      · rintro ⟨h0, h1, h2⟩; exact ⟨h0, by omega, h2⟩
      · rintro ⟨h0, h1, h2⟩
        refine ⟨h0, ?_, h2⟩
        by_cases e : x = n
        · subst e; exact absurd h2 h
        · omega
theorem bt_get (s : ByteArray) (i : Nat) (h : i < s.size) : bt s (i : Int) = ((s[i]'h).toNat : Int) := by
  unfold bt
  rw [dif_pos (by simpa using h)]
  simp
theorem signV_size (b : Bool) : (signV b).size = 1 := by cases b <;> rfl
theorem afterV_size (s : ByteArray) (k : Nat) (b : Bool) (h : k < s.size) : (afterV s k b).size = s.size := by
  unfold afterV
  rw [ByteArray.size_append, ByteArray.size_append, ByteArray.size_extract, ByteArray.size_extract, signV_size]
  omega
theorem bt_data (s : ByteArray) (i : Nat) (h : i < s.size) : bt s (i : Int) = ((s.data.toList[i]'(by simpa using h)).toNat : Int) := by
  rw [bt_get s i h]; rfl
theorem afterV_list (s : ByteArray) (k : Nat) (b : Bool) : (afterV s k b).data.toList = s.data.toList.take k ++ (signV b).data.toList ++ s.data.toList.drop (k + 1) := by
  unfold afterV
  have e : ((k : Int) + 1).toNat = k + 1 := by omega
  rw [e, Int.toNat_natCast]
  simp [ByteArray.data_append, ByteArray.data_extract, Array.toList_extract, List.extract]
  rw [List.take_of_length_le (by simp)]
theorem afterV_bt (s : ByteArray) (k : Nat) (b : Bool) (h : k < s.size) (i : Nat) (hi : i < s.size) : bt (afterV s k b) (i : Int) = if i = k then (if b then 115 else 99) else bt s (i : Int) := by
  have hs := afterV_size s k b h
  have hl := afterV_list s k b
  have hsz : s.data.toList.length = s.size := by simp
  rw [bt_data _ i (by omega), bt_data s i hi]
  have hg : (signV b).data.toList = [if b then 115 else 99] := by cases b <;> rfl
  rw [hg] at hl
  have hget : (afterV s k b).data.toList[i]'(by have : (afterV s k b).data.toList.length = (afterV s k b).size := by simp
                                                omega) = (s.data.toList.take k ++ [if b then 115 else 99] ++ s.data.toList.drop (k + 1))[i]'(by rw [← hl]; have : (afterV s k b).data.toList.length = (afterV s k b).size := by simp
                                                                                                                                                omega) := by
    congr 1
  rw [hget]
  by_cases e : i = k
  · subst e
    rw [if_pos rfl, List.getElem_append_left (by simp; omega), List.getElem_append_right (by simp; omega)]
    cases b <;> simp
  · rw [if_neg e]
    rcases Nat.lt_or_ge i k with hlt | hge
    · rw [List.getElem_append_left (by simp; omega), List.getElem_append_left (by simp; omega), List.getElem_take]
    · rw [List.getElem_append_right (by simp; omega), List.getElem_drop]
      have e2 : k + 1 + (i - (s.data.toList.take k ++ [if b = true then 115 else 99]).length) = i := by
        rw [List.length_append, List.length_take, List.length_singleton, hsz]; omega
      simp only [e2]
theorem chosenTo_congr {p q : Int → Bool} : ∀ {n : Nat}, (∀ i : Nat, i < n → p i = q i) → chosenTo p n = chosenTo q n
  | 0, _ => rfl
  | n + 1, h => by
    show (if p n then chosenTo p n ++ [(n : Int)] else chosenTo p n) = (if q n then chosenTo q n ++ [(n : Int)] else chosenTo q n)
    rw [chosenTo_congr (fun i hi => h i (by omega)), h n (by omega)]
theorem chosenTo_less {p q : Int → Bool} (k : Nat) (hpk : p k = true) (hqk : q k = false) : ∀ {n : Nat}, (∀ i : Nat, i < n → i ≠ k → q i = p i) → k < n → (chosenTo q n).length < (chosenTo p n).length
  | 0, _, h => by omega
  | n + 1, he, h => by
    show (if q n then chosenTo q n ++ [(n : Int)] else chosenTo q n).length < (if p n then chosenTo p n ++ [(n : Int)] else chosenTo p n).length
    by_cases e : k = n
    · subst e
      rw [if_pos hpk, hqk, if_neg (by simp), chosenTo_congr (p := q) (q := p) (fun i hi => he i (by omega) (by omega))]
      simp
    · have ih := chosenTo_less k hpk hqk (n := n) (fun i hi hk => he i (by omega) hk) (by omega)
      rw [he n (by omega) (by omega)]
      by_cases c : p n = true
      · rw [if_pos c, if_pos c]; simpa using ih
      · rw [if_neg c, if_neg c]; exact ih
/-- A move fills an open edge. -/
theorem free_less (s : ByteArray) (k : Int) (b : Bool) (hk : k ∈ freeV s) : (freeV (afterV s k b)).length < (freeV s).length := by
  obtain ⟨h0, h1, h2⟩ := mem_chosenTo.1 hk
  obtain ⟨j, rfl⟩ : ∃ j : Nat, k = (j : Int) := ⟨k.toNat, by omega⟩
  have hj : j < s.size := by omega
  unfold freeV
  rw [afterV_size s j b hj]
  refine chosenTo_less (p := fun k => bt s k == 46) (q := fun k => bt (afterV s j b) k == 46) j h2 ?_ ?_ hj
  · show (bt (afterV s j b) (j : Int) == 46) = false
    rw [afterV_bt s j b hj j hj, if_pos rfl]; cases b <;> rfl
  · intro i hi hne
    show (bt (afterV s j b) (i : Int) == 46) = (bt s (i : Int) == 46)
    rw [afterV_bt s j b hj i hi, if_neg hne]
theorem any_congr_mem {α : Type} {l : List α} {p q : α → Bool} (h : ∀ x ∈ l, p x = q x) : l.any p = l.any q := by
  induction l with
  | nil => rfl
  | cons a l ih =>
    rw [List.any_cons, List.any_cons, h a (by simp), ih (fun x hx => h x (by simp [hx]))]
theorem netWinN_more (l : List (List Int)) : ∀ (n m : Nat) (s : ByteArray) (b : Bool), (freeV s).length < n → (freeV s).length < m → netWinN l n s b = netWinN l m s b
  | 0, _, _, _, h, _ => by omega
  | _, 0, _, _, _, h => by omega
  | n + 1, m + 1, s, b, h1, h2 => by
    unfold netWinN
    have e : (freeV s).any (fun k => netWinN l n (afterV s k b) (!b) == ownV b) = (freeV s).any (fun k => netWinN l m (afterV s k b) (!b) == ownV b) :=
      any_congr_mem fun k hk => by
        have := free_less s k b hk
        rw [netWinN_more l n m _ _ (by omega) (by omega)]
    rw [e]
def netWin (l : List (List Int)) (s : ByteArray) (b : Bool) : Int := netWinN l ((freeV s).length + 1) s b
/-- The winner, by what follows. -/
theorem netWin_eq (l : List (List Int)) (s : ByteArray) (b : Bool) : netWin l s b = if ovV l s = 0 then (if (freeV s).any (fun k => netWin l (afterV s k b) (!b) == ownV b) = true then ownV b else 3 - ownV b) else ovV l s := by
  show netWinN l ((freeV s).length + 1) s b = _
  rw [netWinN]
  have e : (freeV s).any (fun k => netWinN l (freeV s).length (afterV s k b) (!b) == ownV b) = (freeV s).any (fun k => netWin l (afterV s k b) (!b) == ownV b) :=
    any_congr_mem fun k hk => by
      have := free_less s k b hk
      rw [netWinN_more l _ ((freeV (afterV s k b)).length + 1) _ _ this (by omega)]; rfl
  rw [e]
theorem ovV_range (l : List (List Int)) (s : ByteArray) : 0 ≤ ovV l s ∧ ovV l s ≤ 2 := by
  unfold ovV
  split
  · omega
  · split <;> omega
theorem ownV_range (b : Bool) : 1 ≤ ownV b ∧ ownV b ≤ 2 := by cases b <;> decide
theorem netWin_range (l : List (List Int)) (s : ByteArray) (b : Bool) : 0 ≤ netWin l s b ∧ netWin l s b ≤ 2 := by
  have := ovV_range l s
  have := ownV_range b
  rw [netWin_eq]; split
  · split <;> omega
  · omega
theorem netWin_pos (l : List (List Int)) (s : ByteArray) (b : Bool) : 1 ≤ netWin l s b := by
  have := ovV_range l s
  have := ownV_range b
  rw [netWin_eq]; split
  · split <;> omega
  · omega
theorem net_edges_ok {l : List (List Int)} (h : NetEdges l) : ∀ e ∈ l, e.length = 2 ∧ 0 ≤ rd e 0 ∧ 0 ≤ rd e 1 := by
  intro e he
  obtain ⟨a, b, rfl, _, _⟩ := h.2 e he
  exact ⟨rfl, by show (0 : Int) ≤ (a : Int); omega, by show (0 : Int) ≤ (b : Int); omega⟩
/-! ### impl_Net_over: function 78 -/
-- EXTERNAL: by hand
-- impl_Net_reached impl_IsNet
def impl_Net_over.f (a0_0 : Int) (l0_1 : List (List Int)) (a1 : ByteArray) : Option Int := if isNetV a0_0 l0_1 = true ∧ a1.size = l0_1.length then some (ovV l0_1 a1) else none
set_option maxHeartbeats 2000000 in
set_option maxRecDepth 100000 in
theorem overPred1 (g : Nat)  (s : ByteArray) (w : World) (hbox : w.heap[g]? = some (.cells #[.string s] 9 (0, 0))) :
    PredD Try.prog 93 #[.pointer (some ⟨g, 0, none⟩)] (Kd.int .i64) (fun x => 0 ≤ x ∧ x < (s.size : Int)) (fun x => bt s x == 115) w := by
  intro W x v hq hK hb
  obtain ⟨h0, h1⟩ := hq
  obtain rfl : v = .int .i64 x := by simpa [Kd.int, Kd.scalar] using hK
  show Calls Try.prog 93 #[.int .i64 x, .pointer (some ⟨g, 0, none⟩)] W _
  have hc0 : W.cell? ⟨g, 0, none⟩ = some (.string s) := (blk_cell (blk_below hbox hb) 0).trans rfl
  have hx := bt_at s x
  have p := eq_true h0
  have q := eq_true h1
  clear hbox hb hK h0 h1
  go_enter Try.func93, Try.ntmps93
  go_wp2
  go_ret
  exact ⟨rfl, Drawn0.refl _⟩
set_option maxHeartbeats 2000000 in
set_option maxRecDepth 100000 in
theorem overPred2 (g : Nat)  (s : ByteArray) (w : World) (hbox : w.heap[g]? = some (.cells #[.string s] 9 (0, 0))) :
    PredD Try.prog 94 #[.pointer (some ⟨g, 0, none⟩)] (Kd.int .i64) (fun x => 0 ≤ x ∧ x < (s.size : Int)) (fun x => bt s x != 99) w := by
  intro W x v hq hK hb
  obtain ⟨h0, h1⟩ := hq
  obtain rfl : v = .int .i64 x := by simpa [Kd.int, Kd.scalar] using hK
  show Calls Try.prog 94 #[.int .i64 x, .pointer (some ⟨g, 0, none⟩)] W _
  have hc0 : W.cell? ⟨g, 0, none⟩ = some (.string s) := (blk_cell (blk_below hbox hb) 0).trans rfl
  have hx := bt_at s x
  have p := eq_true h0
  have q := eq_true h1
  clear hbox hb hK h0 h1
  go_enter Try.func94, Try.ntmps94
  go_wp2
  go_ret
  exact ⟨rfl, Drawn0.refl _⟩

theorem and_two (c : Nat) (h : c < 256) : Go.bits .and .i64 (c : Int) 2 = if c.testBit 1 = true then 2 else 0 := by
  have := bits_and_nat c 2 (by omega) (by omega)
  rw [show ((2 : Nat) : Int) = 2 from rfl] at this
  rw [this]
  have e : c &&& 2 = if c.testBit 1 = true then 2 else 0 := by
    apply Nat.eq_of_testBit_eq
    intro i
    rw [Nat.testBit_and, show (2 : Nat) = 2 ^ 1 from rfl, Nat.testBit_two_pow]
    by_cases hi : 1 = i
    · subst hi; cases hb : c.testBit 1
      · simp
      · rw [if_pos rfl]; rfl
    · cases hb : c.testBit 1
      · simp [hi]
      · rw [if_pos rfl, show (2 : Nat) = 2 ^ 1 from rfl, Nat.testBit_two_pow]; simp [hi]
  rw [e]; split <;> rfl
set_option maxHeartbeats 4000000 in
set_option maxRecDepth 100000 in
theorem impl_Net_over.calls (a0_0 : Int) (A0_1 : Option Addr) (c0_1 : Nat) (l0_1 : List (List Int)) (a1 : ByteArray) (r : Int) (w : World) (hr0_1 : Kd.C (Kd.slice 2 (Kd.int .i64)) w A0_1 l0_1.length l0_1) (hc0_1 : l0_1.length ≤ c0_1) (h : impl_Net_over.f a0_0 l0_1 a1 = some r) :
    Calls Try.prog 78 #[.agg #[.int .i64 a0_0, .slice A0_1 l0_1.length c0_1], .string a1] w fun e w' => e = .returned (.int .i64 r) ∧ Below w.heap.size w w' := by
  unfold impl_Net_over.f at h
  by_cases hv : isNetV a0_0 l0_1 = true ∧ a1.size = l0_1.length
  case neg => rw [if_neg hv] at h; cases h
  rw [if_pos hv] at h
  obtain rfl := Option.some.inj h
  clear h
  obtain ⟨hv, hsz⟩ := hv
  have hE := (netEdges hv).1
  have eg1 : ∀ args w, (callFunc 93 args).run Try.prog w = .ok (.enter 93 args) w := enters_of Try.func93 (by kernel_rfl) rfl
  have eg2 : ∀ args w, (callFunc 94 args).run Try.prog w = .ok (.enter 94 args) w := enters_of Try.func94 (by kernel_rfl) rfl
  have HB := Aside0.mk (Below.refl w.heap.size w)
  have HR := Aside0.mk hr0_1
  have HC0 := Aside0.mk hc0_1
  have HE := Aside0.mk (net_edges_ok hE)
  have hu := Try.underlying33
  obtain ⟨k1, hk1⟩ := (reachI_N (fun x => bt a1 x == 115) l0_1 hE 0 (by omega)).rounds
  obtain ⟨k2, hk2⟩ := (reachI_N (fun x => bt a1 x != 99) l0_1 hE 0 (by omega)).rounds
  have P1 := fun (W : World) (g : Nat) (hb : W.heap[g]? = some (.cells #[.string a1] 9 (0, 0))) => overPred1 g a1 W hb
  have P2 := fun (W : World) (g : Nat) (hb : W.heap[g]? = some (.cells #[.string a1] 9 (0, 0))) => overPred2 g a1 W hb
  rw [hsz] at P1 P2
  unfold ovV
  have b1 := (reachN_is hE (fun i => bt a1 (i : Int) == 115) 0 (by omega)).1
  have b2 := (reachN_is hE (fun i => bt a1 (i : Int) != 99) 0 (by omega)).1
  generalize reachN (fun i => bt a1 (i : Int) == 115) l0_1 0 = n1 at *
  generalize reachN (fun i => bt a1 (i : Int) != 99) l0_1 0 = n2 at *
  have t1 := and_two n1 b1
  have t2 := and_two n2 b2
  generalize n1.testBit 1 = q1 at t1 ⊢
  generalize n2.testBit 1 = q2 at t2 ⊢
  obtain ⟨r1, e1⟩ : ∃ r : Int, r = n1 := ⟨_, rfl⟩
  obtain ⟨r2, e2⟩ : ∃ r : Int, r = n2 := ⟨_, rfl⟩
  rw [← e1] at hk1 t1
  rw [← e2] at hk2 t2
  have HR1_ := Aside0.mk hk1
  have HR2_ := Aside0.mk hk2
  have tok1 : True := trivial
  have tok2 : True := trivial
  clear hv hsz hE hr0_1 hc0_1 hk1 hk2 b1 b2 e1 e2 n1 n2
  cases q1 with
  | true =>
    have z1 : (Go.bits .and .i64 r1 2 != 0) = true := by rw [t1]; rfl
    clear t1 t2
    go_enter Try.func78, Try.ntmps78
    go_wp2_with (first | ((with_reducible refine gate_dst (N := 2) rfl ?_); refine box_event ?hg (N := 2) ?hd (cs := #[.int .i64 a0_0, .slice A0_1 l0_1.length c0_1]) (t := 33) ?hr ?_; (case hd => rfl); (case hg => rfl); (case hr => first | (go_simp; done) | (go_simp; rfl)); intro g2 hg_ w_ hbox hb; have HX2 := Aside0.mk hbox; have HG2 := Aside0.mk (show w.heap.size ≤ g2 by have := below_size HB.out; omega); clear hbox hg_; have nHB_ := Aside0.mk (below_step HB.out hb); clear HB hb; have HB := nHB_; clear nHB_; have hc20 := (blk_cell HX2.out 0).trans rfl; have hc21 := (blk_cell HX2.out 1).trans rfl) | ((with_reducible refine gate_dst (N := 3) rfl ?_); refine box_event ?hg (N := 3) ?hd (cs := #[.string a1]) (t := 9) ?hr ?_; (case hd => rfl); (case hg => rfl); (case hr => first | (go_simp; done) | (go_simp; rfl)); intro g3 hg_ w_ hbox hb; have HX3 := Aside0.mk hbox; have HG3 := Aside0.mk (show w.heap.size ≤ g3 ∧ g2 ≠ g3 by have := below_size HB.out; have := blk_lt HX2.out; omega); (try clear hc20); (try clear hc21); clear hbox hg_; have nHB_ := Aside0.mk (below_step HB.out hb); have nHX2_ := Aside0.mk (blk_below HX2.out hb); clear HB HX2 hb; have HB := nHB_; have HX2 := nHX2_; clear nHB_ nHX2_; have hc20 := (blk_cell HX2.out 0).trans rfl; have hc21 := (blk_cell HX2.out 1).trans rfl; have hc30 := (blk_cell HX3.out 0).trans rfl) | (go_at_call 70; have _t := tok1; refine (impl_Net_reached.calls 93 #[.pointer (some ⟨g3, 0, none⟩)] _ eg1 k1 a0_0 A0_1 c0_1 l0_1 0 r1 _ (PredD.toK (P1 _ _ HX3.out)) (Kd.C_below HR.out HB.out) HC0.out HE.out (by omega) HR1_.out).mono ?_; rintro e w_ ⟨rfl, hb⟩; (try clear hc20); (try clear hc21); (try clear hc30); have nHB_ := Aside0.mk (below_step HB.out hb); have nHX2_ := Aside0.mk (blk_below HX2.out hb); have nHX3_ := Aside0.mk (blk_below HX3.out hb); clear HB HX2 HX3 hb; have HB := nHB_; have HX2 := nHX2_; have HX3 := nHX3_; clear nHB_ nHX2_ nHX3_; have hc20 := (blk_cell HX2.out 0).trans rfl; have hc21 := (blk_cell HX2.out 1).trans rfl; have hc30 := (blk_cell HX3.out 0).trans rfl; (try clear tok1)))
    go_ret
    exact ⟨rfl, HB.out⟩
  | false =>
    have z1 : (Go.bits .and .i64 r1 2 != 0) = false := by rw [t1]; rfl
    cases q2 with
    | true =>
      have z2 : (Go.bits .and .i64 r2 2 == 0) = false := by rw [t2]; rfl
      clear t1 t2
      go_enter Try.func78, Try.ntmps78
      go_wp2_with (first | ((with_reducible refine gate_dst (N := 2) rfl ?_); refine box_event ?hg (N := 2) ?hd (cs := #[.int .i64 a0_0, .slice A0_1 l0_1.length c0_1]) (t := 33) ?hr ?_; (case hd => rfl); (case hg => rfl); (case hr => first | (go_simp; done) | (go_simp; rfl)); intro g2 hg_ w_ hbox hb; have HX2 := Aside0.mk hbox; have HG2 := Aside0.mk (show w.heap.size ≤ g2 by have := below_size HB.out; omega); clear hbox hg_; have nHB_ := Aside0.mk (below_step HB.out hb); clear HB hb; have HB := nHB_; clear nHB_; have hc20 := (blk_cell HX2.out 0).trans rfl; have hc21 := (blk_cell HX2.out 1).trans rfl) | ((with_reducible refine gate_dst (N := 3) rfl ?_); refine box_event ?hg (N := 3) ?hd (cs := #[.string a1]) (t := 9) ?hr ?_; (case hd => rfl); (case hg => rfl); (case hr => first | (go_simp; done) | (go_simp; rfl)); intro g3 hg_ w_ hbox hb; have HX3 := Aside0.mk hbox; have HG3 := Aside0.mk (show w.heap.size ≤ g3 ∧ g2 ≠ g3 by have := below_size HB.out; have := blk_lt HX2.out; omega); (try clear hc20); (try clear hc21); clear hbox hg_; have nHB_ := Aside0.mk (below_step HB.out hb); have nHX2_ := Aside0.mk (blk_below HX2.out hb); clear HB HX2 hb; have HB := nHB_; have HX2 := nHX2_; clear nHB_ nHX2_; have hc20 := (blk_cell HX2.out 0).trans rfl; have hc21 := (blk_cell HX2.out 1).trans rfl; have hc30 := (blk_cell HX3.out 0).trans rfl) | (go_at_call 70; have _t := tok1; refine (impl_Net_reached.calls 93 #[.pointer (some ⟨g3, 0, none⟩)] _ eg1 k1 a0_0 A0_1 c0_1 l0_1 0 r1 _ (PredD.toK (P1 _ _ HX3.out)) (Kd.C_below HR.out HB.out) HC0.out HE.out (by omega) HR1_.out).mono ?_; rintro e w_ ⟨rfl, hb⟩; (try clear hc20); (try clear hc21); (try clear hc30); have nHB_ := Aside0.mk (below_step HB.out hb); have nHX2_ := Aside0.mk (blk_below HX2.out hb); have nHX3_ := Aside0.mk (blk_below HX3.out hb); clear HB HX2 HX3 hb; have HB := nHB_; have HX2 := nHX2_; have HX3 := nHX3_; clear nHB_ nHX2_ nHX3_; have hc20 := (blk_cell HX2.out 0).trans rfl; have hc21 := (blk_cell HX2.out 1).trans rfl; have hc30 := (blk_cell HX3.out 0).trans rfl; (try clear tok1)) | (go_at_call 70; have _t := tok2; refine (impl_Net_reached.calls 94 #[.pointer (some ⟨g3, 0, none⟩)] _ eg2 k2 a0_0 A0_1 c0_1 l0_1 0 r2 _ (PredD.toK (P2 _ _ HX3.out)) (Kd.C_below HR.out HB.out) HC0.out HE.out (by omega) HR2_.out).mono ?_; rintro e w_ ⟨rfl, hb⟩; (try clear hc20); (try clear hc21); (try clear hc30); have nHB_ := Aside0.mk (below_step HB.out hb); have nHX2_ := Aside0.mk (blk_below HX2.out hb); have nHX3_ := Aside0.mk (blk_below HX3.out hb); clear HB HX2 HX3 hb; have HB := nHB_; have HX2 := nHX2_; have HX3 := nHX3_; clear nHB_ nHX2_ nHX3_; have hc20 := (blk_cell HX2.out 0).trans rfl; have hc21 := (blk_cell HX2.out 1).trans rfl; have hc30 := (blk_cell HX3.out 0).trans rfl; (try clear tok2)))
      go_ret
      exact ⟨rfl, HB.out⟩
    | false =>
      have z2 : (Go.bits .and .i64 r2 2 == 0) = true := by rw [t2]; rfl
      clear t1 t2
      go_enter Try.func78, Try.ntmps78
      go_wp2_with (first | ((with_reducible refine gate_dst (N := 2) rfl ?_); refine box_event ?hg (N := 2) ?hd (cs := #[.int .i64 a0_0, .slice A0_1 l0_1.length c0_1]) (t := 33) ?hr ?_; (case hd => rfl); (case hg => rfl); (case hr => first | (go_simp; done) | (go_simp; rfl)); intro g2 hg_ w_ hbox hb; have HX2 := Aside0.mk hbox; have HG2 := Aside0.mk (show w.heap.size ≤ g2 by have := below_size HB.out; omega); clear hbox hg_; have nHB_ := Aside0.mk (below_step HB.out hb); clear HB hb; have HB := nHB_; clear nHB_; have hc20 := (blk_cell HX2.out 0).trans rfl; have hc21 := (blk_cell HX2.out 1).trans rfl) | ((with_reducible refine gate_dst (N := 3) rfl ?_); refine box_event ?hg (N := 3) ?hd (cs := #[.string a1]) (t := 9) ?hr ?_; (case hd => rfl); (case hg => rfl); (case hr => first | (go_simp; done) | (go_simp; rfl)); intro g3 hg_ w_ hbox hb; have HX3 := Aside0.mk hbox; have HG3 := Aside0.mk (show w.heap.size ≤ g3 ∧ g2 ≠ g3 by have := below_size HB.out; have := blk_lt HX2.out; omega); (try clear hc20); (try clear hc21); clear hbox hg_; have nHB_ := Aside0.mk (below_step HB.out hb); have nHX2_ := Aside0.mk (blk_below HX2.out hb); clear HB HX2 hb; have HB := nHB_; have HX2 := nHX2_; clear nHB_ nHX2_; have hc20 := (blk_cell HX2.out 0).trans rfl; have hc21 := (blk_cell HX2.out 1).trans rfl; have hc30 := (blk_cell HX3.out 0).trans rfl) | (go_at_call 70; have _t := tok1; refine (impl_Net_reached.calls 93 #[.pointer (some ⟨g3, 0, none⟩)] _ eg1 k1 a0_0 A0_1 c0_1 l0_1 0 r1 _ (PredD.toK (P1 _ _ HX3.out)) (Kd.C_below HR.out HB.out) HC0.out HE.out (by omega) HR1_.out).mono ?_; rintro e w_ ⟨rfl, hb⟩; (try clear hc20); (try clear hc21); (try clear hc30); have nHB_ := Aside0.mk (below_step HB.out hb); have nHX2_ := Aside0.mk (blk_below HX2.out hb); have nHX3_ := Aside0.mk (blk_below HX3.out hb); clear HB HX2 HX3 hb; have HB := nHB_; have HX2 := nHX2_; have HX3 := nHX3_; clear nHB_ nHX2_ nHX3_; have hc20 := (blk_cell HX2.out 0).trans rfl; have hc21 := (blk_cell HX2.out 1).trans rfl; have hc30 := (blk_cell HX3.out 0).trans rfl; (try clear tok1)) | (go_at_call 70; have _t := tok2; refine (impl_Net_reached.calls 94 #[.pointer (some ⟨g3, 0, none⟩)] _ eg2 k2 a0_0 A0_1 c0_1 l0_1 0 r2 _ (PredD.toK (P2 _ _ HX3.out)) (Kd.C_below HR.out HB.out) HC0.out HE.out (by omega) HR2_.out).mono ?_; rintro e w_ ⟨rfl, hb⟩; (try clear hc20); (try clear hc21); (try clear hc30); have nHB_ := Aside0.mk (below_step HB.out hb); have nHX2_ := Aside0.mk (blk_below HX2.out hb); have nHX3_ := Aside0.mk (blk_below HX3.out hb); clear HB HX2 HX3 hb; have HB := nHB_; have HX2 := nHX2_; have HX3 := nHX3_; clear nHB_ nHX2_ nHX3_; have hc20 := (blk_cell HX2.out 0).trans rfl; have hc21 := (blk_cell HX2.out 1).trans rfl; have hc30 := (blk_cell HX3.out 0).trans rfl; (try clear tok2)))
      go_ret
      exact ⟨rfl, HB.out⟩
/-! ### impl_bit: function 79 -/
def impl_bit.f (a0 : Bool) : Option (Int) := if a0 = true then (some 1) else (some 0)
set_option maxHeartbeats 8000000 in
set_option maxRecDepth 100000 in
theorem impl_bit.calls (a0 : Bool) (r : Int) (w : World) (h : impl_bit.f a0 = some r) :
  Calls Try.prog 79 #[.bool a0] w fun e w' => e = .returned (.int .i64 r) ∧ Drawn0 w w' := by
 have H : (if a0 = true then (some 1) else (some 0)) = some r := h
 clear h
 by_cases c2 : a0 = true
 ·subst c2
  have H1 : (some 1) = some r := by rw [if_pos rfl] at H; exact H
  clear H
  have H := H1
  clear H1
  obtain rfl := Option.some.inj H
  go_enter Try.func79, Try.ntmps79
  go_wp2
  go_ret
  exact ⟨by first | rfl | (simp; done) | (simp [*]; done), by repeat (first | exact Drawn0.refl _ | apply Drawn0.step)⟩
 ·replace c2 := Bool.eq_false_iff.mpr c2
  subst c2
  have H1 : (some 0) = some r := by rw [if_neg (show ¬ (false = true) by decide)] at H; exact H
  clear H
  have H := H1
  clear H1
  obtain rfl := Option.some.inj H
  go_enter Try.func79, Try.ntmps79
  go_wp2
  go_ret
  exact ⟨by first | rfl | (simp; done) | (simp [*]; done), by repeat (first | exact Drawn0.refl _ | apply Drawn0.step)⟩
/-! ### impl_turn_open: function 80 -/
-- EXTERNAL: by hand
-- impl_chosen impl_Net_reached
def impl_turn_open.f (a0_0 : ByteArray) (a0_1 : Bool) : Option (List Int) := if a0_0.size ≤ 17592186044416 then some (freeV a0_0) else none
set_option maxHeartbeats 2000000 in
set_option maxRecDepth 100000 in
theorem openPred (g : Nat) (b : Bool) (s : ByteArray) (w : World) (hbox : w.heap[g]? = some (.cells #[.string s, .bool b] 72 (0, 0))) :
    PredD Try.prog 95 #[.pointer (some ⟨g, 0, none⟩)] (Kd.int .i64) (fun x => 0 ≤ x ∧ x < (s.size : Int)) (fun x => bt s x == 46) w := by
  intro W x v hq hK hb
  obtain ⟨h0, h1⟩ := hq
  obtain rfl : v = .int .i64 x := by simpa [Kd.int, Kd.scalar] using hK
  show Calls Try.prog 95 #[.int .i64 x, .pointer (some ⟨g, 0, none⟩)] W _
  have hc0 : W.cell? ⟨g, 0, none⟩ = some (.string s) := (blk_cell (blk_below hbox hb) 0).trans rfl
  have hx := bt_at s x
  have p := eq_true h0
  have q := eq_true h1
  clear hbox hb hK h0 h1
  go_enter Try.func95, Try.ntmps95
  go_wp2
  go_ret
  exact ⟨rfl, Drawn0.refl _⟩
set_option maxHeartbeats 4000000 in
set_option maxRecDepth 100000 in
theorem impl_turn_open.calls (a0_0 : ByteArray) (a0_1 : Bool) (r : List Int) (w : World) (h : impl_turn_open.f a0_0 a0_1 = some r) :
    Calls Try.prog 80 #[.agg #[.string a0_0, .bool a0_1]] w fun e w' => ∃ v0_ : Value, e = .returned v0_ ∧ Kd.R (Kd.int .i64) 2 w' w.heap.size (fun _ => True) v0_ r ∧ Below w.heap.size w w' := by
  unfold impl_turn_open.f at h
  by_cases hv : a0_0.size ≤ 17592186044416
  case neg => rw [if_neg hv] at h; cases h
  rw [if_pos hv] at h
  obtain rfl := Option.some.inj h
  clear h
  have eg1 : ∀ args w, (callFunc 95 args).run Try.prog w = .ok (.enter 95 args) w := enters_of Try.func95 (by kernel_rfl) rfl
  have HB := Aside0.mk (Below.refl w.heap.size w)
  have HS := Aside0.mk hv
  have hu := Try.underlying72
  clear hv
  go_enter Try.func80, Try.ntmps80
  go_wp2_with (first | ((with_reducible refine gate_dst (N := 1) rfl ?_); refine box_event ?hg (N := 1) ?hd (cs := #[.string a0_0, .bool a0_1]) (t := 72) ?hr ?_; (case hd => rfl); (case hg => rfl); (case hr => first | (go_simp; done) | (go_simp; rfl)); intro g1 hg_ w_ hbox hb; have HX1 := Aside0.mk hbox; have HG1 := Aside0.mk (show w.heap.size ≤ g1 by have := below_size HB.out; omega); clear hbox hg_; have nHB_ := Aside0.mk (below_step HB.out hb); clear HB hb; have HB := nHB_; clear nHB_; have hc10 := (blk_cell HX1.out 0).trans rfl; have hc11 := (blk_cell HX1.out 1).trans rfl) | (go_at_call 74; refine (impl_chosen.calls 95 #[.pointer (some ⟨g1, 0, none⟩)] _ (fun x => bt a0_0 x == 46) eg1 (a0_0.size : Int) _ (PredD.toK (openPred g1 a0_1 a0_0 _ HX1.out)) (fun x h0 h1 => ⟨h0, h1⟩) (by have := HS.out; omega)).mono ?_; rintro e w_ ⟨v_, rfl, ho, hb⟩; have HO := Aside0.mk (Kd.R_lower ho (below_size HB.out)); have nHB_ := Aside0.mk (below_step HB.out hb); clear HB hb ho; have HB := nHB_; clear nHB_))
  go_ret
  exact ⟨_, rfl, by have := HO.out; rw [Int.toNat_natCast] at this; exact this, HB.out⟩
/-! ### impl_turn_after: function 82 -/
def impl_turn_after.f (a0_0 : ByteArray) (a0_1 : Bool) (a1 : Int) : Option (ByteArray × Bool) := if a0_1 = true then (if 0 ≤ a1 then (if a1 ≤ (a0_0.size : Int) then (if (a0_0.extract 0 (a1 : Int).toNat).size + 1 ≤ 9223372036854775807 then (if 0 ≤ (wrap64 (a1 + 1)) then (if (wrap64 (a1 + 1)) ≤ (a0_0.size : Int) then (if ((a0_0.extract 0 (a1 : Int).toNat) ++ (⟨#[115]⟩ : ByteArray)).size + (a0_0.extract ((wrap64 (a1 + 1)) : Int).toNat a0_0.size).size ≤ 9223372036854775807 then (some (((a0_0.extract 0 (a1 : Int).toNat) ++ (⟨#[115]⟩ : ByteArray)) ++ (a0_0.extract ((wrap64 (a1 + 1)) : Int).toNat a0_0.size), !a0_1)) else (none)) else (none)) else (none)) else (none)) else (none)) else (none)) else (if 0 ≤ a1 then (if a1 ≤ (a0_0.size : Int) then (if (a0_0.extract 0 (a1 : Int).toNat).size + 1 ≤ 9223372036854775807 then (if 0 ≤ (wrap64 (a1 + 1)) then (if (wrap64 (a1 + 1)) ≤ (a0_0.size : Int) then (if ((a0_0.extract 0 (a1 : Int).toNat) ++ (⟨#[99]⟩ : ByteArray)).size + (a0_0.extract ((wrap64 (a1 + 1)) : Int).toNat a0_0.size).size ≤ 9223372036854775807 then (some (((a0_0.extract 0 (a1 : Int).toNat) ++ (⟨#[99]⟩ : ByteArray)) ++ (a0_0.extract ((wrap64 (a1 + 1)) : Int).toNat a0_0.size), !a0_1)) else (none)) else (none)) else (none)) else (none)) else (none)) else (none))
def impl_turn_after.T4 : Bool × List (List Nat × List Nat) := (true, [([], []), ([0], [0]), ([], []), ([1, 2], [1, 2]), ([], []), ([3, 4], [3, 4]), ([], []), ([6], [6]), ([], []), ([8], [8]), ([7, 9], [7, 9]), ([5, 10], [5, 10]), ([], []), ([12], [12]), ([13], [13]), ([11, 14], [11, 14]), ([15, 0, 1, 2, 3, 4, 5, 6, 7, 8, 9, 10, 11, 12, 13, 14, 15], [15])])
def impl_turn_after.B4 : List Nat := [0, 1, 0, 7, 0, 31, 0, 64, 0, 256, 960, 2047, 0, 4096, 12288, 32767, 65535]
theorem impl_turn_after.tab4 : rtab .any (opsOf Try.f82 4) = impl_turn_after.T4 := by kernel_rfl
theorem impl_turn_after.bits4 : waitsOk impl_turn_after.T4.2 impl_turn_after.B4 = true := by kernel_rfl
set_option maxHeartbeats 8000000 in
set_option maxRecDepth 100000 in
theorem impl_turn_after.calls (a0_0 : ByteArray) (a0_1 : Bool) (a1 : Int) (r1 : ByteArray) (r2 : Bool) (w : World) (h : impl_turn_after.f a0_0 a0_1 a1 = some (r1, r2)) :
  Calls Try.prog 82 #[.agg #[.string a0_0, .bool a0_1], .int .i64 a1] w fun e w' => e = .returned (.agg #[.string r1, .bool r2]) ∧ Below w.heap.size w w' := by
 have hu72 := Try.underlying72
 have HB := Aside0.mk (Below.refl w.heap.size w)
 have H : (if a0_1 = true then (if 0 ≤ a1 then (if a1 ≤ (a0_0.size : Int) then (if (a0_0.extract 0 (a1 : Int).toNat).size + 1 ≤ 9223372036854775807 then (if 0 ≤ (wrap64 (a1 + 1)) then (if (wrap64 (a1 + 1)) ≤ (a0_0.size : Int) then (if ((a0_0.extract 0 (a1 : Int).toNat) ++ (⟨#[115]⟩ : ByteArray)).size + (a0_0.extract ((wrap64 (a1 + 1)) : Int).toNat a0_0.size).size ≤ 9223372036854775807 then (some (((a0_0.extract 0 (a1 : Int).toNat) ++ (⟨#[115]⟩ : ByteArray)) ++ (a0_0.extract ((wrap64 (a1 + 1)) : Int).toNat a0_0.size), !a0_1)) else (none)) else (none)) else (none)) else (none)) else (none)) else (none)) else (if 0 ≤ a1 then (if a1 ≤ (a0_0.size : Int) then (if (a0_0.extract 0 (a1 : Int).toNat).size + 1 ≤ 9223372036854775807 then (if 0 ≤ (wrap64 (a1 + 1)) then (if (wrap64 (a1 + 1)) ≤ (a0_0.size : Int) then (if ((a0_0.extract 0 (a1 : Int).toNat) ++ (⟨#[99]⟩ : ByteArray)).size + (a0_0.extract ((wrap64 (a1 + 1)) : Int).toNat a0_0.size).size ≤ 9223372036854775807 then (some (((a0_0.extract 0 (a1 : Int).toNat) ++ (⟨#[99]⟩ : ByteArray)) ++ (a0_0.extract ((wrap64 (a1 + 1)) : Int).toNat a0_0.size), !a0_1)) else (none)) else (none)) else (none)) else (none)) else (none)) else (none))) = some (r1, r2) := h
 clear h
 by_cases c3 : a0_1 = true
 ·subst c3
  have H1 : (if 0 ≤ a1 then (if a1 ≤ (a0_0.size : Int) then (if (a0_0.extract 0 (a1 : Int).toNat).size + 1 ≤ 9223372036854775807 then (if 0 ≤ (wrap64 (a1 + 1)) then (if (wrap64 (a1 + 1)) ≤ (a0_0.size : Int) then (if ((a0_0.extract 0 (a1 : Int).toNat) ++ (⟨#[115]⟩ : ByteArray)).size + (a0_0.extract ((wrap64 (a1 + 1)) : Int).toNat a0_0.size).size ≤ 9223372036854775807 then (some (((a0_0.extract 0 (a1 : Int).toNat) ++ (⟨#[115]⟩ : ByteArray)) ++ (a0_0.extract ((wrap64 (a1 + 1)) : Int).toNat a0_0.size), !true)) else (none)) else (none)) else (none)) else (none)) else (none)) else (none)) = some (r1, r2) := by rw [if_pos rfl] at H; exact H
  clear H
  have H := H1
  clear H1
  by_cases c4 : 0 ≤ a1
  ·rw [if_pos c4] at H
   have c4b0 := eq_true c4
   have c4b1 : decide (0 ≤ a1) = true := decide_eq_true c4
   clear c4
   by_cases c5 : a1 ≤ (a0_0.size : Int)
   ·rw [if_pos c5] at H
    have c5b0 := eq_true c5
    have c5b1 : decide (a1 ≤ (a0_0.size : Int)) = true := decide_eq_true c5
    clear c5
    by_cases c6 : (a0_0.extract 0 (a1 : Int).toNat).size + 1 ≤ 9223372036854775807
    ·rw [if_pos c6] at H
     have c6b0 := eq_true c6
     have c6b1 : decide ((a0_0.extract 0 (a1 : Int).toNat).size + 1 ≤ 9223372036854775807) = true := decide_eq_true c6
     try have c6b2 : (9223372036854775807 < (a0_0.extract 0 (a1 : Int).toNat).size + 1) = False := eq_false (Nat.not_lt.2 c6)
     have zc0 : a1.toNat + 1 ≤ 9223372036854775807 := (by have h_ := c6; rw [ByteArray.size_extract] at h_; have g_ : a1 ≤ (a0_0.size : Int) := of_decide_eq_true ‹decide (a1 ≤ (a0_0.size : Int)) = true›; omega)
     have zcc6 : (9223372036854775807 < a1.toNat + 1) = False := eq_false (by omega)
     clear zc0
     obtain ⟨ji7, hji7⟩ : ∃ j_ : Int, (wrap64 (a1 + 1)) = j_ := ⟨_, rfl⟩
     replace H : (if 0 ≤ (ji7) then (if (ji7) ≤ (a0_0.size : Int) then (if ((a0_0.extract 0 (a1 : Int).toNat) ++ (⟨#[115]⟩ : ByteArray)).size + (a0_0.extract ((ji7) : Int).toNat a0_0.size).size ≤ 9223372036854775807 then (some (((a0_0.extract 0 (a1 : Int).toNat) ++ (⟨#[115]⟩ : ByteArray)) ++ (a0_0.extract ((ji7) : Int).toNat a0_0.size), !true)) else (none)) else (none)) else (none)) = some (r1, r2) := by first | (rw [hji7] at H; exact H) | (simp only [hji7] at H ⊢; exact H)
     have hji7w : (IntKind.i64.wrap (a1 + 1)) = ji7 := (i64_w _).trans hji7
     by_cases c8 : 0 ≤ (ji7)
     ·rw [if_pos c8] at H
      have c8b0 := eq_true c8
      have c8b1 : decide (0 ≤ (ji7)) = true := decide_eq_true c8
      clear c8
      by_cases c9 : (ji7) ≤ (a0_0.size : Int)
      ·rw [if_pos c9] at H
       have c9b0 := eq_true c9
       have c9b1 : decide ((ji7) ≤ (a0_0.size : Int)) = true := decide_eq_true c9
       clear c9
       by_cases c10 : ((a0_0.extract 0 (a1 : Int).toNat) ++ (⟨#[115]⟩ : ByteArray)).size + (a0_0.extract ((ji7) : Int).toNat a0_0.size).size ≤ 9223372036854775807
       ·rw [if_pos c10] at H
        have c10b0 := eq_true c10
        have c10b1 : decide (((a0_0.extract 0 (a1 : Int).toNat) ++ (⟨#[115]⟩ : ByteArray)).size + (a0_0.extract ((ji7) : Int).toNat a0_0.size).size ≤ 9223372036854775807) = true := decide_eq_true c10
        try have c10b2 : (9223372036854775807 < ((a0_0.extract 0 (a1 : Int).toNat) ++ (⟨#[115]⟩ : ByteArray)).size + (a0_0.extract ((ji7) : Int).toNat a0_0.size).size) = False := eq_false (Nat.not_lt.2 c10)
        have zc0 : a1.toNat + 1 + (a0_0.size - ji7.toNat) ≤ 9223372036854775807 := (by have h_ := c10; have e_ : (⟨#[115]⟩ : ByteArray).size = 1 := rfl; rw [ByteArray.size_append, ByteArray.size_extract, ByteArray.size_extract, e_] at h_; have g_ : a1 ≤ (a0_0.size : Int) := of_decide_eq_true ‹decide (a1 ≤ (a0_0.size : Int)) = true›; omega)
        have zcc10 : (9223372036854775807 < a1.toNat + 1 + (a0_0.size - ji7.toNat)) = False := eq_false (by omega)
        clear zc0
        simp only [Option.some.injEq, Prod.mk.injEq] at H
        obtain ⟨rfl, rfl⟩ := H
        go_enter Try.func82, Try.ntmps82
        try go_wp2_with (first | ((with_reducible refine gate_dst (N := 2) rfl ?_); refine box_event ?hg (N := 2) ?hd (cs := #[.string a0_0, .bool true]) (t := 72) ?hr ?_; (case hd => rfl); (case hg => rfl); (case hr => first | (go_simp; done) | (go_simp; rfl)); intro gb381 hg w11 hbox hb; have n0_ := Aside0.mk (below_step (by repeat (first | (with_reducible first | exact HB.out | apply below_alloc | apply pw_below_drewN | apply below_drew1) | exact HB.out)) hb); have n1_ := Aside0.mk (hbox); have n2_ := Aside0.mk ((by rw [hg]; exact (below_size (by repeat (first | (with_reducible first | exact HB.out | apply below_alloc | apply pw_below_drewN | apply below_drew1) | exact HB.out))) : w.heap.size ≤ gb381)); have n3_ := Aside0.mk ((by rw [hg]; exact (below_size (by repeat (first | (with_reducible first | exact HB.out | apply below_alloc | apply pw_below_drewN | apply below_drew1) | exact HB.out))) : w.heap.size ≤ gb381)); clear HB; have HB := n0_; have BK381 := n1_; have GW381 := n2_; have GE381 := n3_; clear n0_ n1_ n2_ n3_; clear hb hbox hg) | ((with_reducible refine gate_dst (N := 4) rfl ?_); refine box_event ?hg (N := 4) ?hd (cs := #[.string (⟨#[]⟩ : ByteArray), .bool false]) (t := 72) ?hr ?_; (case hd => rfl); (case hg => rfl); (case hr => first | (go_simp; done) | (go_simp; rfl)); intro gb382 hg w12 hbox hb; have n0_ := Aside0.mk (blk_below (g := gb381) (o := .cells #[.string a0_0, .bool true] 72 (0, 0)) (by (with_reducible repeat (first | refine blk_drewN ?_ _ | refine blk_drew ?_ | refine blk_alloc ?_ _)); exact BK381.out) hb); have n1_ := Aside0.mk (below_step (by repeat (first | (with_reducible first | exact HB.out | apply below_alloc | apply pw_below_drewN | apply below_drew1 | refine below_set ?_ GE381.out) | exact HB.out)) hb); have n2_ := Aside0.mk (hbox); have n3_ := Aside0.mk ((by rw [hg]; exact (below_size (by repeat (first | (with_reducible first | exact HB.out | apply below_alloc | apply pw_below_drewN | apply below_drew1 | refine below_set ?_ GE381.out) | exact HB.out))) : w.heap.size ≤ gb382)); have n4_ := Aside0.mk ((by rw [hg]; exact (below_size (by repeat (first | (with_reducible first | exact HB.out | apply below_alloc | apply pw_below_drewN | apply below_drew1 | refine below_set ?_ GE381.out) | exact HB.out))) : w.heap.size ≤ gb382)); have n5_ := Aside0.mk ((by rw [hg]; exact Nat.ne_of_lt (blk_lt (g := gb381) (o := .cells #[.string a0_0, .bool true] 72 (0, 0)) (by (with_reducible repeat (first | refine blk_drewN ?_ _ | refine blk_drew ?_ | refine blk_alloc ?_ _)); exact BK381.out)) : gb381 ≠ gb382)); have n6_ := Aside0.mk ((by rw [hg]; exact Nat.ne_of_gt (blk_lt (g := gb381) (o := .cells #[.string a0_0, .bool true] 72 (0, 0)) (by (with_reducible repeat (first | refine blk_drewN ?_ _ | refine blk_drew ?_ | refine blk_alloc ?_ _)); exact BK381.out)) : gb382 ≠ gb381)); clear BK381; clear HB; have BK381 := n0_; have HB := n1_; have BK382 := n2_; have GW382 := n3_; have GE382 := n4_; have NB381_382 := n5_; have NB382_381 := n6_; clear n0_ n1_ n2_ n3_ n4_ n5_ n6_; clear hb hbox hg; have hnb13 := NB381_382.out; have hnc13 := NB382_381.out; have hcz14_0 : w12.cell? ⟨gb381, 0, none⟩ = some (.string a0_0) := (blk_cell BK381.out 0).trans rfl; have hcz14_1 : w12.cell? ⟨gb381, 1, none⟩ = some (.bool true) := (blk_cell BK381.out 1).trans rfl; have hfz14_0 := blk_frozen BK381.out 0; have hfz14_1 := blk_frozen BK381.out 1))
        have n0_ := Aside0.mk (blk_drew BK381.out)
        have n1_ := Aside0.mk (blk_drew BK382.out)
        have n2_ := Aside0.mk (below_drew1 HB.out)
        clear BK381
        clear BK382
        clear HB
        have BK381 := n0_
        have BK382 := n1_
        have HB := n2_
        clear n0_ n1_ n2_
        refine start_ (n := 17) (S := fun w' => w'.cell? ⟨gb381, 0, none⟩ = some (.string a0_0) ∧ w'.cell? ⟨gb381, 1, none⟩ = some (.bool true)) (ds := []) #[false, false, false, false, false, false, false, false, false, false, false, false, false, false, false, false, false] (by kernel_rfl) rfl rfl ⟨(blk_cell BK381.out 0).trans rfl, (blk_cell BK381.out 1).trans rfl⟩ (fun hHeld => ?_); refine with_tabW impl_turn_after.tab4 impl_turn_after.bits4 (fun HT_ HW_ => ?_)
        generalize w12.drew = w15 at BK381 BK382 HB hHeld ⊢
        refine pure_ (i := 0) (N := some 8) (v := ?_) (a' := ?_) #[true, false, false, false, false, false, false, false, false, false, false, false, false, false, false, false, false] rfl rfl (any_of HT_.out (by kernel_rfl)) (fun _ _ _ h => h) (Or.inl ⟨by rfl, ?_⟩) ?_ ?_
        rotate_left
        ·intro w'
         go_simp
         with_reducible rfl
        rotate_left
        ·simp only [Act.put, List.setIfInBounds_toArray, List.set_cons_zero, List.set_cons_succ, i64_w, i32_w]
         rfl
        refine pure_ (i := 2) (N := some 10) (v := ?_) (a' := ?_) #[true, false, true, false, false, false, false, false, false, false, false, false, false, false, false, false, false] rfl rfl (any_of HT_.out (by kernel_rfl)) (fun _ _ _ h => h) (Or.inl ⟨by rfl, ?_⟩) ?_ ?_
        rotate_left
        ·intro w'
         go_simp
         with_reducible rfl
        rotate_left
        ·simp only [Act.put, List.setIfInBounds_toArray, List.set_cons_zero, List.set_cons_succ, i64_w, i32_w]
         rfl
        refine pure_ (i := 4) (N := some 12) (v := ?_) (a' := ?_) #[true, false, true, false, true, false, false, false, false, false, false, false, false, false, false, false, false] rfl rfl (any_of HT_.out (by kernel_rfl)) (fun _ _ _ h => h) (Or.inl ⟨by rfl, ?_⟩) ?_ ?_
        rotate_left
        ·intro w'
         go_simp
         with_reducible rfl
        rotate_left
        ·simp only [Act.put, List.setIfInBounds_toArray, List.set_cons_zero, List.set_cons_succ, i64_w, i32_w]
         rfl
        refine pure_ (i := 6) (N := some 14) (v := ?_) (a' := ?_) #[true, false, true, false, true, false, true, false, false, false, false, false, false, false, false, false, false] rfl rfl (any_of HT_.out (by kernel_rfl)) (fun _ _ _ h => h) (Or.inl ⟨by rfl, ?_⟩) ?_ ?_
        rotate_left
        ·intro w'
         go_simp
         with_reducible rfl
        rotate_left
        ·simp only [Act.put, List.setIfInBounds_toArray, List.set_cons_zero, List.set_cons_succ, i64_w, i32_w]
         rfl
        refine pure_ (i := 8) (N := some 16) (v := ?_) (a' := ?_) #[true, false, true, false, true, false, true, false, true, false, false, false, false, false, false, false, false] rfl rfl (any_of HT_.out (by kernel_rfl)) (fun _ _ _ h => h) (Or.inl ⟨by rfl, ?_⟩) ?_ ?_
        rotate_left
        ·intro w'
         go_simp
         with_reducible rfl
        rotate_left
        ·simp only [Act.put, List.setIfInBounds_toArray, List.set_cons_zero, List.set_cons_succ, i64_w, i32_w]
         rfl
        refine pure_ (i := 9) (N := some 17) (v := ?_) (a' := ?_) #[true, false, true, false, true, false, true, false, true, true, false, false, false, false, false, false, false] rfl rfl (any_of HT_.out (by kernel_rfl)) (fun _ _ _ h => h) (Or.inl ⟨by rfl, ?_⟩) ?_ ?_
        rotate_left
        ·intro w'
         go_simp
         with_reducible rfl
        rotate_left
        ·simp only [Act.put, List.setIfInBounds_toArray, List.set_cons_zero, List.set_cons_succ, i64_w, i32_w]
         rfl
        refine pure_ (i := 12) (N := some 20) (v := ?_) (a' := ?_) #[true, false, true, false, true, false, true, false, true, true, false, false, true, false, false, false, false] rfl rfl (any_of HT_.out (by kernel_rfl)) (fun _ _ _ h => h) (Or.inl ⟨by rfl, ?_⟩) ?_ ?_
        rotate_left
        ·intro w'
         go_simp
         with_reducible rfl
        rotate_left
        ·simp only [Act.put, List.setIfInBounds_toArray, List.set_cons_zero, List.set_cons_succ, i64_w, i32_w]
         rfl
        refine take_ (i := 1) (N := some 9) (v := ?_) (a' := ?_) #[true, true, true, false, true, false, true, false, true, true, false, false, true, false, false, false, false] rfl rfl (take_ofW HT_.out HW_.out (by kernel_rfl)) (fun _ _ _ h => h) (Or.inl ⟨by rfl, ?_⟩) hHeld ?_ ?_
        rotate_left
        ·rintro w' ⟨s0, s1⟩
         go_simp
         with_reducible rfl
        rotate_left
        ·simp only [Act.put, List.setIfInBounds_toArray, List.set_cons_zero, List.set_cons_succ, i64_w, i32_w]
         rfl
        refine pure_ (i := 3) (N := some 11) (v := ?_) (a' := ?_) #[true, true, true, true, true, false, true, false, true, true, false, false, true, false, false, false, false] rfl rfl (any_of HT_.out (by kernel_rfl)) (fun _ _ _ h => h) (Or.inl ⟨by rfl, ?_⟩) ?_ ?_
        rotate_left
        ·intro w'
         go_simp
         with_reducible rfl
        rotate_left
        ·simp only [Act.put, List.setIfInBounds_toArray, List.set_cons_zero, List.set_cons_succ, i64_w, i32_w]
         rfl
        refine pure_ (i := 5) (N := some 13) (v := ?_) (a' := ?_) #[true, true, true, true, true, true, true, false, true, true, false, false, true, false, false, false, false] rfl rfl (any_of HT_.out (by kernel_rfl)) (fun _ _ _ h => h) (Or.inl ⟨by rfl, ?_⟩) ?_ ?_
        rotate_left
        ·intro w'
         go_simp
         with_reducible rfl
        rotate_left
        ·simp only [Act.put, List.setIfInBounds_toArray, List.set_cons_zero, List.set_cons_succ, i64_w, i32_w]
         rfl
        refine take_ (i := 7) (N := some 15) (v := ?_) (a' := ?_) #[true, true, true, true, true, true, true, true, true, true, false, false, true, false, false, false, false] rfl rfl (take_ofW HT_.out HW_.out (by kernel_rfl)) (fun _ _ _ h => h) (Or.inl ⟨by rfl, ?_⟩) hHeld ?_ ?_
        rotate_left
        ·rintro w' ⟨s0, s1⟩
         go_simp
         with_reducible rfl
        rotate_left
        ·simp only [Act.put, List.setIfInBounds_toArray, List.set_cons_zero, List.set_cons_succ, i64_w, i32_w]
         rfl
        refine pure_ (i := 10) (N := some 18) (v := ?_) (a' := ?_) #[true, true, true, true, true, true, true, true, true, true, true, false, true, false, false, false, false] rfl rfl (any_of HT_.out (by kernel_rfl)) (fun _ _ _ h => h) (Or.inl ⟨by rfl, ?_⟩) ?_ ?_
        rotate_left
        ·intro w'
         go_simp
         with_reducible rfl
        rotate_left
        ·simp only [Act.put, List.setIfInBounds_toArray, List.set_cons_zero, List.set_cons_succ, i64_w, i32_w]
         rfl
        refine pure_ (i := 11) (N := some 19) (v := ?_) (a' := ?_) #[true, true, true, true, true, true, true, true, true, true, true, true, true, false, false, false, false] rfl rfl (any_of HT_.out (by kernel_rfl)) (fun _ _ _ h => h) (Or.inl ⟨by rfl, ?_⟩) ?_ ?_
        rotate_left
        ·intro w'
         go_simp
         with_reducible rfl
        rotate_left
        ·simp only [Act.put, List.setIfInBounds_toArray, List.set_cons_zero, List.set_cons_succ, i64_w, i32_w]
         rfl
        refine take_ (i := 13) (N := some 21) (v := ?_) (a' := ?_) #[true, true, true, true, true, true, true, true, true, true, true, true, true, true, false, false, false] rfl rfl (take_ofW HT_.out HW_.out (by kernel_rfl)) (fun _ _ _ h => h) (Or.inl ⟨by rfl, ?_⟩) hHeld ?_ ?_
        rotate_left
        ·rintro w' ⟨s0, s1⟩
         go_simp
         with_reducible rfl
        rotate_left
        ·simp only [Act.put, List.setIfInBounds_toArray, List.set_cons_zero, List.set_cons_succ, i64_w, i32_w]
         rfl
        refine pure_ (i := 14) (N := some 22) (v := ?_) (a' := ?_) #[true, true, true, true, true, true, true, true, true, true, true, true, true, true, true, false, false] rfl rfl (any_of HT_.out (by kernel_rfl)) (fun _ _ _ h => h) (Or.inl ⟨by rfl, ?_⟩) ?_ ?_
        rotate_left
        ·intro w'
         go_simp
         with_reducible rfl
        rotate_left
        ·simp only [Act.put, List.setIfInBounds_toArray, List.set_cons_zero, List.set_cons_succ, i64_w, i32_w]
         rfl
        refine pure_ (i := 15) (N := some 23) (v := ?_) (a' := ?_) #[true, true, true, true, true, true, true, true, true, true, true, true, true, true, true, true, false] rfl rfl (any_of HT_.out (by kernel_rfl)) (fun _ _ _ h => h) (Or.inl ⟨by rfl, ?_⟩) ?_ ?_
        rotate_left
        ·intro w'
         go_simp
         with_reducible rfl
        rotate_left
        ·simp only [Act.put, List.setIfInBounds_toArray, List.set_cons_zero, List.set_cons_succ, i64_w, i32_w]
         rfl
        refine one_ (i := 16) (N := none) #[true, true, true, true, true, true, true, true, true, true, true, true, true, true, true, true, true] rfl rfl (one_of HT_.out (by kernel_rfl)) (by decide) (fun K hK => ?_)
        have hs16 : w15.cell? ⟨gb382, 0, none⟩ = some (.string (⟨#[]⟩ : ByteArray)) := (blk_cell BK382.out 0).trans rfl
        have hfs16 := blk_frozen BK382.out 0
        have hns16_0 := NB381_382.out
        have hms16_0 := NB382_381.out
        have hs17 : w15.cell? ⟨gb382, 1, none⟩ = some (.bool false) := (blk_cell BK382.out 1).trans rfl
        have hfs17 := blk_frozen BK382.out 1
        have hns17_0 := NB381_382.out
        have hms17_0 := NB382_381.out
        refine skip_ (w1 := ?_) (by rfl) rfl ?_ ?_
        rotate_left
        ·go_simp
         rfl
        refine hK.out _ _ ⟨((cell_far (p := ⟨gb382, _, none⟩) NB381_382.out _).trans (((cell_far (p := ⟨gb382, _, none⟩) NB381_382.out _).trans (hHeld.1)))), ((cell_far (p := ⟨gb382, _, none⟩) NB381_382.out _).trans (((cell_far (p := ⟨gb382, _, none⟩) NB381_382.out _).trans (hHeld.2))))⟩ (fun hHeld => ?_)
        clear hK K
        refine done_ (done_of HT_.out (by kernel_rfl)) ?_
        try go_wp2
        refine bodyPost_ret (results_cell_row rfl _ _ gb382 72 #[.string (((a0_0.extract 0 (a1 : Int).toNat) ++ (⟨#[115]⟩ : ByteArray)) ++ (a0_0.extract ((ji7) : Int).toNat a0_0.size)), .bool (!true)] (0, 0) _ rfl (by (with_reducible repeat (first | refine blk_drewN ?_ _ | refine blk_drew ?_ | refine blk_alloc ?_ _)); refine blk_put (cs := #[.string (((a0_0.extract 0 (a1 : Int).toNat) ++ (⟨#[115]⟩ : ByteArray)) ++ (a0_0.extract ((ji7) : Int).toNat a0_0.size)), .bool false]) ?_ 1 _ rfl; (with_reducible repeat (first | refine blk_drewN ?_ _ | refine blk_drew ?_ | refine blk_alloc ?_ _)); refine blk_put (cs := #[.string (⟨#[]⟩ : ByteArray), .bool false]) ?_ 0 _ rfl; (with_reducible repeat (first | refine blk_drewN ?_ _ | refine blk_drew ?_ | refine blk_alloc ?_ _)); exact BK382.out) Try.underlying72 rfl (by kernel_rfl)) rfl ?_
        exact ⟨by first | rfl | (simp [errW_none, errW_some] <;> rfl) | (simp only [← hji7]; first | rfl | (simp [errW_none, errW_some] <;> rfl)) | (simp [*, errW_none, errW_some] <;> rfl), by repeat (first | (with_reducible first | exact HB.out | apply below_alloc | apply pw_below_drewN | apply below_drew1 | refine below_set ?_ GE381.out | refine below_set ?_ GE382.out) | exact HB.out)⟩
       ·rw [if_neg c10] at H
        exact absurd H (by simp)
      ·rw [if_neg c9] at H
       exact absurd H (by simp)
     ·rw [if_neg c8] at H
      exact absurd H (by simp)
    ·rw [if_neg c6] at H
     exact absurd H (by simp)
   ·rw [if_neg c5] at H
    exact absurd H (by simp)
  ·rw [if_neg c4] at H
   exact absurd H (by simp)
 ·replace c3 := Bool.eq_false_iff.mpr c3
  subst c3
  have H1 : (if 0 ≤ a1 then (if a1 ≤ (a0_0.size : Int) then (if (a0_0.extract 0 (a1 : Int).toNat).size + 1 ≤ 9223372036854775807 then (if 0 ≤ (wrap64 (a1 + 1)) then (if (wrap64 (a1 + 1)) ≤ (a0_0.size : Int) then (if ((a0_0.extract 0 (a1 : Int).toNat) ++ (⟨#[99]⟩ : ByteArray)).size + (a0_0.extract ((wrap64 (a1 + 1)) : Int).toNat a0_0.size).size ≤ 9223372036854775807 then (some (((a0_0.extract 0 (a1 : Int).toNat) ++ (⟨#[99]⟩ : ByteArray)) ++ (a0_0.extract ((wrap64 (a1 + 1)) : Int).toNat a0_0.size), !false)) else (none)) else (none)) else (none)) else (none)) else (none)) else (none)) = some (r1, r2) := by rw [if_neg (show ¬ (false = true) by decide)] at H; exact H
  clear H
  have H := H1
  clear H1
  by_cases c18 : 0 ≤ a1
  ·rw [if_pos c18] at H
   have c18b0 := eq_true c18
   have c18b1 : decide (0 ≤ a1) = true := decide_eq_true c18
   clear c18
   by_cases c19 : a1 ≤ (a0_0.size : Int)
   ·rw [if_pos c19] at H
    have c19b0 := eq_true c19
    have c19b1 : decide (a1 ≤ (a0_0.size : Int)) = true := decide_eq_true c19
    clear c19
    by_cases c20 : (a0_0.extract 0 (a1 : Int).toNat).size + 1 ≤ 9223372036854775807
    ·rw [if_pos c20] at H
     have c20b0 := eq_true c20
     have c20b1 : decide ((a0_0.extract 0 (a1 : Int).toNat).size + 1 ≤ 9223372036854775807) = true := decide_eq_true c20
     try have c20b2 : (9223372036854775807 < (a0_0.extract 0 (a1 : Int).toNat).size + 1) = False := eq_false (Nat.not_lt.2 c20)
     have zc0 : a1.toNat + 1 ≤ 9223372036854775807 := (by have h_ := c20; rw [ByteArray.size_extract] at h_; have g_ : a1 ≤ (a0_0.size : Int) := of_decide_eq_true ‹decide (a1 ≤ (a0_0.size : Int)) = true›; omega)
     have zcc20 : (9223372036854775807 < a1.toNat + 1) = False := eq_false (by omega)
     clear zc0
     obtain ⟨ji21, hji21⟩ : ∃ j_ : Int, (wrap64 (a1 + 1)) = j_ := ⟨_, rfl⟩
     replace H : (if 0 ≤ (ji21) then (if (ji21) ≤ (a0_0.size : Int) then (if ((a0_0.extract 0 (a1 : Int).toNat) ++ (⟨#[99]⟩ : ByteArray)).size + (a0_0.extract ((ji21) : Int).toNat a0_0.size).size ≤ 9223372036854775807 then (some (((a0_0.extract 0 (a1 : Int).toNat) ++ (⟨#[99]⟩ : ByteArray)) ++ (a0_0.extract ((ji21) : Int).toNat a0_0.size), !false)) else (none)) else (none)) else (none)) = some (r1, r2) := by first | (rw [hji21] at H; exact H) | (simp only [hji21] at H ⊢; exact H)
     have hji21w : (IntKind.i64.wrap (a1 + 1)) = ji21 := (i64_w _).trans hji21
     by_cases c22 : 0 ≤ (ji21)
     ·rw [if_pos c22] at H
      have c22b0 := eq_true c22
      have c22b1 : decide (0 ≤ (ji21)) = true := decide_eq_true c22
      clear c22
      by_cases c23 : (ji21) ≤ (a0_0.size : Int)
      ·rw [if_pos c23] at H
       have c23b0 := eq_true c23
       have c23b1 : decide ((ji21) ≤ (a0_0.size : Int)) = true := decide_eq_true c23
       clear c23
       by_cases c24 : ((a0_0.extract 0 (a1 : Int).toNat) ++ (⟨#[99]⟩ : ByteArray)).size + (a0_0.extract ((ji21) : Int).toNat a0_0.size).size ≤ 9223372036854775807
       ·rw [if_pos c24] at H
        have c24b0 := eq_true c24
        have c24b1 : decide (((a0_0.extract 0 (a1 : Int).toNat) ++ (⟨#[99]⟩ : ByteArray)).size + (a0_0.extract ((ji21) : Int).toNat a0_0.size).size ≤ 9223372036854775807) = true := decide_eq_true c24
        try have c24b2 : (9223372036854775807 < ((a0_0.extract 0 (a1 : Int).toNat) ++ (⟨#[99]⟩ : ByteArray)).size + (a0_0.extract ((ji21) : Int).toNat a0_0.size).size) = False := eq_false (Nat.not_lt.2 c24)
        have zc0 : a1.toNat + 1 + (a0_0.size - ji21.toNat) ≤ 9223372036854775807 := (by have h_ := c24; have e_ : (⟨#[99]⟩ : ByteArray).size = 1 := rfl; rw [ByteArray.size_append, ByteArray.size_extract, ByteArray.size_extract, e_] at h_; have g_ : a1 ≤ (a0_0.size : Int) := of_decide_eq_true ‹decide (a1 ≤ (a0_0.size : Int)) = true›; omega)
        have zcc24 : (9223372036854775807 < a1.toNat + 1 + (a0_0.size - ji21.toNat)) = False := eq_false (by omega)
        clear zc0
        simp only [Option.some.injEq, Prod.mk.injEq] at H
        obtain ⟨rfl, rfl⟩ := H
        go_enter Try.func82, Try.ntmps82
        try go_wp2_with (first | ((with_reducible refine gate_dst (N := 2) rfl ?_); refine box_event ?hg (N := 2) ?hd (cs := #[.string a0_0, .bool false]) (t := 72) ?hr ?_; (case hd => rfl); (case hg => rfl); (case hr => first | (go_simp; done) | (go_simp; rfl)); intro gb381 hg w25 hbox hb; have n0_ := Aside0.mk (below_step (by repeat (first | (with_reducible first | exact HB.out | apply below_alloc | apply pw_below_drewN | apply below_drew1) | exact HB.out)) hb); have n1_ := Aside0.mk (hbox); have n2_ := Aside0.mk ((by rw [hg]; exact (below_size (by repeat (first | (with_reducible first | exact HB.out | apply below_alloc | apply pw_below_drewN | apply below_drew1) | exact HB.out))) : w.heap.size ≤ gb381)); have n3_ := Aside0.mk ((by rw [hg]; exact (below_size (by repeat (first | (with_reducible first | exact HB.out | apply below_alloc | apply pw_below_drewN | apply below_drew1) | exact HB.out))) : w.heap.size ≤ gb381)); clear HB; have HB := n0_; have BK381 := n1_; have GW381 := n2_; have GE381 := n3_; clear n0_ n1_ n2_ n3_; clear hb hbox hg) | ((with_reducible refine gate_dst (N := 4) rfl ?_); refine box_event ?hg (N := 4) ?hd (cs := #[.string (⟨#[]⟩ : ByteArray), .bool false]) (t := 72) ?hr ?_; (case hd => rfl); (case hg => rfl); (case hr => first | (go_simp; done) | (go_simp; rfl)); intro gb382 hg w26 hbox hb; have n0_ := Aside0.mk (blk_below (g := gb381) (o := .cells #[.string a0_0, .bool false] 72 (0, 0)) (by (with_reducible repeat (first | refine blk_drewN ?_ _ | refine blk_drew ?_ | refine blk_alloc ?_ _)); exact BK381.out) hb); have n1_ := Aside0.mk (below_step (by repeat (first | (with_reducible first | exact HB.out | apply below_alloc | apply pw_below_drewN | apply below_drew1 | refine below_set ?_ GE381.out) | exact HB.out)) hb); have n2_ := Aside0.mk (hbox); have n3_ := Aside0.mk ((by rw [hg]; exact (below_size (by repeat (first | (with_reducible first | exact HB.out | apply below_alloc | apply pw_below_drewN | apply below_drew1 | refine below_set ?_ GE381.out) | exact HB.out))) : w.heap.size ≤ gb382)); have n4_ := Aside0.mk ((by rw [hg]; exact (below_size (by repeat (first | (with_reducible first | exact HB.out | apply below_alloc | apply pw_below_drewN | apply below_drew1 | refine below_set ?_ GE381.out) | exact HB.out))) : w.heap.size ≤ gb382)); have n5_ := Aside0.mk ((by rw [hg]; exact Nat.ne_of_lt (blk_lt (g := gb381) (o := .cells #[.string a0_0, .bool false] 72 (0, 0)) (by (with_reducible repeat (first | refine blk_drewN ?_ _ | refine blk_drew ?_ | refine blk_alloc ?_ _)); exact BK381.out)) : gb381 ≠ gb382)); have n6_ := Aside0.mk ((by rw [hg]; exact Nat.ne_of_gt (blk_lt (g := gb381) (o := .cells #[.string a0_0, .bool false] 72 (0, 0)) (by (with_reducible repeat (first | refine blk_drewN ?_ _ | refine blk_drew ?_ | refine blk_alloc ?_ _)); exact BK381.out)) : gb382 ≠ gb381)); clear BK381; clear HB; have BK381 := n0_; have HB := n1_; have BK382 := n2_; have GW382 := n3_; have GE382 := n4_; have NB381_382 := n5_; have NB382_381 := n6_; clear n0_ n1_ n2_ n3_ n4_ n5_ n6_; clear hb hbox hg; have hnb27 := NB381_382.out; have hnc27 := NB382_381.out; have hcz28_0 : w26.cell? ⟨gb381, 0, none⟩ = some (.string a0_0) := (blk_cell BK381.out 0).trans rfl; have hcz28_1 : w26.cell? ⟨gb381, 1, none⟩ = some (.bool false) := (blk_cell BK381.out 1).trans rfl; have hfz28_0 := blk_frozen BK381.out 0; have hfz28_1 := blk_frozen BK381.out 1))
        have n0_ := Aside0.mk (blk_drew BK381.out)
        have n1_ := Aside0.mk (blk_drew BK382.out)
        have n2_ := Aside0.mk (below_drew1 HB.out)
        clear BK381
        clear BK382
        clear HB
        have BK381 := n0_
        have BK382 := n1_
        have HB := n2_
        clear n0_ n1_ n2_
        refine start_ (n := 17) (S := fun w' => w'.cell? ⟨gb381, 0, none⟩ = some (.string a0_0) ∧ w'.cell? ⟨gb381, 1, none⟩ = some (.bool false)) (ds := []) #[false, false, false, false, false, false, false, false, false, false, false, false, false, false, false, false, false] (by kernel_rfl) rfl rfl ⟨(blk_cell BK381.out 0).trans rfl, (blk_cell BK381.out 1).trans rfl⟩ (fun hHeld => ?_); refine with_tabW impl_turn_after.tab4 impl_turn_after.bits4 (fun HT_ HW_ => ?_)
        generalize w26.drew = w29 at BK381 BK382 HB hHeld ⊢
        refine pure_ (i := 0) (N := some 8) (v := ?_) (a' := ?_) #[true, false, false, false, false, false, false, false, false, false, false, false, false, false, false, false, false] rfl rfl (any_of HT_.out (by kernel_rfl)) (fun _ _ _ h => h) (Or.inl ⟨by rfl, ?_⟩) ?_ ?_
        rotate_left
        ·intro w'
         go_simp
         with_reducible rfl
        rotate_left
        ·simp only [Act.put, List.setIfInBounds_toArray, List.set_cons_zero, List.set_cons_succ, i64_w, i32_w]
         rfl
        refine pure_ (i := 2) (N := some 10) (v := ?_) (a' := ?_) #[true, false, true, false, false, false, false, false, false, false, false, false, false, false, false, false, false] rfl rfl (any_of HT_.out (by kernel_rfl)) (fun _ _ _ h => h) (Or.inl ⟨by rfl, ?_⟩) ?_ ?_
        rotate_left
        ·intro w'
         go_simp
         with_reducible rfl
        rotate_left
        ·simp only [Act.put, List.setIfInBounds_toArray, List.set_cons_zero, List.set_cons_succ, i64_w, i32_w]
         rfl
        refine pure_ (i := 4) (N := some 12) (v := ?_) (a' := ?_) #[true, false, true, false, true, false, false, false, false, false, false, false, false, false, false, false, false] rfl rfl (any_of HT_.out (by kernel_rfl)) (fun _ _ _ h => h) (Or.inl ⟨by rfl, ?_⟩) ?_ ?_
        rotate_left
        ·intro w'
         go_simp
         with_reducible rfl
        rotate_left
        ·simp only [Act.put, List.setIfInBounds_toArray, List.set_cons_zero, List.set_cons_succ, i64_w, i32_w]
         rfl
        refine pure_ (i := 6) (N := some 14) (v := ?_) (a' := ?_) #[true, false, true, false, true, false, true, false, false, false, false, false, false, false, false, false, false] rfl rfl (any_of HT_.out (by kernel_rfl)) (fun _ _ _ h => h) (Or.inl ⟨by rfl, ?_⟩) ?_ ?_
        rotate_left
        ·intro w'
         go_simp
         with_reducible rfl
        rotate_left
        ·simp only [Act.put, List.setIfInBounds_toArray, List.set_cons_zero, List.set_cons_succ, i64_w, i32_w]
         rfl
        refine pure_ (i := 8) (N := some 16) (v := ?_) (a' := ?_) #[true, false, true, false, true, false, true, false, true, false, false, false, false, false, false, false, false] rfl rfl (any_of HT_.out (by kernel_rfl)) (fun _ _ _ h => h) (Or.inl ⟨by rfl, ?_⟩) ?_ ?_
        rotate_left
        ·intro w'
         go_simp
         with_reducible rfl
        rotate_left
        ·simp only [Act.put, List.setIfInBounds_toArray, List.set_cons_zero, List.set_cons_succ, i64_w, i32_w]
         rfl
        refine pure_ (i := 9) (N := some 17) (v := ?_) (a' := ?_) #[true, false, true, false, true, false, true, false, true, true, false, false, false, false, false, false, false] rfl rfl (any_of HT_.out (by kernel_rfl)) (fun _ _ _ h => h) (Or.inl ⟨by rfl, ?_⟩) ?_ ?_
        rotate_left
        ·intro w'
         go_simp
         with_reducible rfl
        rotate_left
        ·simp only [Act.put, List.setIfInBounds_toArray, List.set_cons_zero, List.set_cons_succ, i64_w, i32_w]
         rfl
        refine pure_ (i := 12) (N := some 20) (v := ?_) (a' := ?_) #[true, false, true, false, true, false, true, false, true, true, false, false, true, false, false, false, false] rfl rfl (any_of HT_.out (by kernel_rfl)) (fun _ _ _ h => h) (Or.inl ⟨by rfl, ?_⟩) ?_ ?_
        rotate_left
        ·intro w'
         go_simp
         with_reducible rfl
        rotate_left
        ·simp only [Act.put, List.setIfInBounds_toArray, List.set_cons_zero, List.set_cons_succ, i64_w, i32_w]
         rfl
        refine take_ (i := 1) (N := some 9) (v := ?_) (a' := ?_) #[true, true, true, false, true, false, true, false, true, true, false, false, true, false, false, false, false] rfl rfl (take_ofW HT_.out HW_.out (by kernel_rfl)) (fun _ _ _ h => h) (Or.inl ⟨by rfl, ?_⟩) hHeld ?_ ?_
        rotate_left
        ·rintro w' ⟨s0, s1⟩
         go_simp
         with_reducible rfl
        rotate_left
        ·simp only [Act.put, List.setIfInBounds_toArray, List.set_cons_zero, List.set_cons_succ, i64_w, i32_w]
         rfl
        refine pure_ (i := 3) (N := some 11) (v := ?_) (a' := ?_) #[true, true, true, true, true, false, true, false, true, true, false, false, true, false, false, false, false] rfl rfl (any_of HT_.out (by kernel_rfl)) (fun _ _ _ h => h) (Or.inl ⟨by rfl, ?_⟩) ?_ ?_
        rotate_left
        ·intro w'
         go_simp
         with_reducible rfl
        rotate_left
        ·simp only [Act.put, List.setIfInBounds_toArray, List.set_cons_zero, List.set_cons_succ, i64_w, i32_w]
         rfl
        refine pure_ (i := 5) (N := some 13) (v := ?_) (a' := ?_) #[true, true, true, true, true, true, true, false, true, true, false, false, true, false, false, false, false] rfl rfl (any_of HT_.out (by kernel_rfl)) (fun _ _ _ h => h) (Or.inl ⟨by rfl, ?_⟩) ?_ ?_
        rotate_left
        ·intro w'
         go_simp
         with_reducible rfl
        rotate_left
        ·simp only [Act.put, List.setIfInBounds_toArray, List.set_cons_zero, List.set_cons_succ, i64_w, i32_w]
         rfl
        refine take_ (i := 7) (N := some 15) (v := ?_) (a' := ?_) #[true, true, true, true, true, true, true, true, true, true, false, false, true, false, false, false, false] rfl rfl (take_ofW HT_.out HW_.out (by kernel_rfl)) (fun _ _ _ h => h) (Or.inl ⟨by rfl, ?_⟩) hHeld ?_ ?_
        rotate_left
        ·rintro w' ⟨s0, s1⟩
         go_simp
         with_reducible rfl
        rotate_left
        ·simp only [Act.put, List.setIfInBounds_toArray, List.set_cons_zero, List.set_cons_succ, i64_w, i32_w]
         rfl
        refine pure_ (i := 10) (N := some 18) (v := ?_) (a' := ?_) #[true, true, true, true, true, true, true, true, true, true, true, false, true, false, false, false, false] rfl rfl (any_of HT_.out (by kernel_rfl)) (fun _ _ _ h => h) (Or.inl ⟨by rfl, ?_⟩) ?_ ?_
        rotate_left
        ·intro w'
         go_simp
         with_reducible rfl
        rotate_left
        ·simp only [Act.put, List.setIfInBounds_toArray, List.set_cons_zero, List.set_cons_succ, i64_w, i32_w]
         rfl
        refine pure_ (i := 11) (N := some 19) (v := ?_) (a' := ?_) #[true, true, true, true, true, true, true, true, true, true, true, true, true, false, false, false, false] rfl rfl (any_of HT_.out (by kernel_rfl)) (fun _ _ _ h => h) (Or.inl ⟨by rfl, ?_⟩) ?_ ?_
        rotate_left
        ·intro w'
         go_simp
         with_reducible rfl
        rotate_left
        ·simp only [Act.put, List.setIfInBounds_toArray, List.set_cons_zero, List.set_cons_succ, i64_w, i32_w]
         rfl
        refine take_ (i := 13) (N := some 21) (v := ?_) (a' := ?_) #[true, true, true, true, true, true, true, true, true, true, true, true, true, true, false, false, false] rfl rfl (take_ofW HT_.out HW_.out (by kernel_rfl)) (fun _ _ _ h => h) (Or.inl ⟨by rfl, ?_⟩) hHeld ?_ ?_
        rotate_left
        ·rintro w' ⟨s0, s1⟩
         go_simp
         with_reducible rfl
        rotate_left
        ·simp only [Act.put, List.setIfInBounds_toArray, List.set_cons_zero, List.set_cons_succ, i64_w, i32_w]
         rfl
        refine pure_ (i := 14) (N := some 22) (v := ?_) (a' := ?_) #[true, true, true, true, true, true, true, true, true, true, true, true, true, true, true, false, false] rfl rfl (any_of HT_.out (by kernel_rfl)) (fun _ _ _ h => h) (Or.inl ⟨by rfl, ?_⟩) ?_ ?_
        rotate_left
        ·intro w'
         go_simp
         with_reducible rfl
        rotate_left
        ·simp only [Act.put, List.setIfInBounds_toArray, List.set_cons_zero, List.set_cons_succ, i64_w, i32_w]
         rfl
        refine pure_ (i := 15) (N := some 23) (v := ?_) (a' := ?_) #[true, true, true, true, true, true, true, true, true, true, true, true, true, true, true, true, false] rfl rfl (any_of HT_.out (by kernel_rfl)) (fun _ _ _ h => h) (Or.inl ⟨by rfl, ?_⟩) ?_ ?_
        rotate_left
        ·intro w'
         go_simp
         with_reducible rfl
        rotate_left
        ·simp only [Act.put, List.setIfInBounds_toArray, List.set_cons_zero, List.set_cons_succ, i64_w, i32_w]
         rfl
        refine one_ (i := 16) (N := none) #[true, true, true, true, true, true, true, true, true, true, true, true, true, true, true, true, true] rfl rfl (one_of HT_.out (by kernel_rfl)) (by decide) (fun K hK => ?_)
        have hs30 : w29.cell? ⟨gb382, 0, none⟩ = some (.string (⟨#[]⟩ : ByteArray)) := (blk_cell BK382.out 0).trans rfl
        have hfs30 := blk_frozen BK382.out 0
        have hns30_0 := NB381_382.out
        have hms30_0 := NB382_381.out
        have hs31 : w29.cell? ⟨gb382, 1, none⟩ = some (.bool false) := (blk_cell BK382.out 1).trans rfl
        have hfs31 := blk_frozen BK382.out 1
        have hns31_0 := NB381_382.out
        have hms31_0 := NB382_381.out
        refine skip_ (w1 := ?_) (by rfl) rfl ?_ ?_
        rotate_left
        ·go_simp
         rfl
        refine hK.out _ _ ⟨((cell_far (p := ⟨gb382, _, none⟩) NB381_382.out _).trans (((cell_far (p := ⟨gb382, _, none⟩) NB381_382.out _).trans (hHeld.1)))), ((cell_far (p := ⟨gb382, _, none⟩) NB381_382.out _).trans (((cell_far (p := ⟨gb382, _, none⟩) NB381_382.out _).trans (hHeld.2))))⟩ (fun hHeld => ?_)
        clear hK K
        refine done_ (done_of HT_.out (by kernel_rfl)) ?_
        try go_wp2
        refine bodyPost_ret (results_cell_row rfl _ _ gb382 72 #[.string (((a0_0.extract 0 (a1 : Int).toNat) ++ (⟨#[99]⟩ : ByteArray)) ++ (a0_0.extract ((ji21) : Int).toNat a0_0.size)), .bool (!false)] (0, 0) _ rfl (by (with_reducible repeat (first | refine blk_drewN ?_ _ | refine blk_drew ?_ | refine blk_alloc ?_ _)); refine blk_put (cs := #[.string (((a0_0.extract 0 (a1 : Int).toNat) ++ (⟨#[99]⟩ : ByteArray)) ++ (a0_0.extract ((ji21) : Int).toNat a0_0.size)), .bool false]) ?_ 1 _ rfl; (with_reducible repeat (first | refine blk_drewN ?_ _ | refine blk_drew ?_ | refine blk_alloc ?_ _)); refine blk_put (cs := #[.string (⟨#[]⟩ : ByteArray), .bool false]) ?_ 0 _ rfl; (with_reducible repeat (first | refine blk_drewN ?_ _ | refine blk_drew ?_ | refine blk_alloc ?_ _)); exact BK382.out) Try.underlying72 rfl (by kernel_rfl)) rfl ?_
        exact ⟨by first | rfl | (simp [errW_none, errW_some] <;> rfl) | (simp only [← hji21]; first | rfl | (simp [errW_none, errW_some] <;> rfl)) | (simp [*, errW_none, errW_some] <;> rfl), by repeat (first | (with_reducible first | exact HB.out | apply below_alloc | apply pw_below_drewN | apply below_drew1 | refine below_set ?_ GE381.out | refine below_set ?_ GE382.out) | exact HB.out)⟩
       ·rw [if_neg c24] at H
        exact absurd H (by simp)
      ·rw [if_neg c23] at H
       exact absurd H (by simp)
     ·rw [if_neg c22] at H
      exact absurd H (by simp)
    ·rw [if_neg c20] at H
     exact absurd H (by simp)
   ·rw [if_neg c19] at H
    exact absurd H (by simp)
  ·rw [if_neg c18] at H
   exact absurd H (by simp)
-- A literal as a block of its own, and stores into blocks that are new.
section
variable {P : Program} {ops : Array Oper} {rest : List Oper} {o : Oper} {a : Act} {Q : Exit → Act → World → Prop}
theorem lit_event {W : World} (hgd : o.guard = none) {N : Tmp} (_hd : o.dst = some N) {cs : Array Value} {t : TypeId} {n : Nat}
    (hrun : (execOp a.eval o).run P W = .ok (.value (.slice (some ⟨W.heap.size, 0, none⟩) n n)) (W.alloc (.cells cs t (0, 0))))
    (h : ∀ g, g = W.heap.size → ∀ w1, w1.heap[g]? = some (.cells cs t (0, 0)) → Below W.heap.size W w1 → wpList P ops Q rest (a.put o.dst (.slice (some ⟨g, 0, none⟩) n n)) w1) : wpList P ops Q (o :: rest) a W :=
  Kd.event_run hgd hrun (h _ rfl _ (blk_new W _) (below_alloc (Below.refl _ _) _))
end
theorem arr_below {B : Nat} {w W : World} (h : Below B w W) {g : Nat} (hg : B ≤ g) (i : Nat) (u : Value) : Below B w (W.setCell ⟨g, i, none⟩ u) :=
  h.trans ⟨rfl, rfl, rfl, by simp [World.setCell], fun k hk => Below.heap_setCell W ⟨g, i, none⟩ u k (by show k ≠ g; omega)⟩
theorem run_store_func {P : Program} {w : World} {a : Addr} {m : Mode} (f : Fn) (t b : Array Value) : (store a (.func f t b) m).run P w = stored P w a (.func f t b) m := run_store P w a _ m rfl
-- needs: maps that keep what is known (memo)
/-- What a map keeps is so. -/
def Memo (P : Program) (k : TypeId) (F : Value → Int → Prop) (D : DataW Unit) : Prop :=
  ∀ key kl c, keyOf P k key = some kl → Go.Maps.has D kl = true → D.atKey kl (.lit (.int .i64 0)) = .lit (.int .i64 c) → F key c
theorem Memo.empty {P : Program} {k : TypeId} {F : Value → Int → Prop} : Memo P k F (.map []) := fun _ _ _ _ h => by simp [Go.Maps.has] at h
theorem Memo.put {P : Program} {k : TypeId} {F : Value → Int → Prop} {D : DataW Unit} (K : Go.Maps.Keyed P k) (hm : Go.Maps.IsMap D) (h : Memo P k F D) {key : Value} {kl : Lit} {c : Int} (hk : keyOf P k key = some kl) (hF : F key c) :
    Memo P k F (D.put kl (.lit (.int .i64 c))) := by
  intro key' kl' c' hk' hh ha
  by_cases e : kl' = kl
  · subst e
    have : key' = key := K.inj hk' hk
    subst this
    rw [Go.Maps.atKey_put_same hm (K.key hk)] at ha
    injection ha with ha
    injection ha with _ ha
    exact ha ▸ hF
  · rw [Go.Maps.has_put_other e] at hh
    rw [Go.Maps.atKey_put_other e] at ha
    exact h key' kl' c' hk' hh ha
/-- Block gm is a map of at most N entries that keeps what is so. -/
def HasMemo (P : Program) (k e : TypeId) (F : Value → Int → Prop) (gm N : Nat) (W : World) : Prop := ∃ D : DataW Unit, W.ownsMap P k (plainElem P e) gm N D ∧ Memo P k F D
theorem HasMemo.mono {P : Program} {k e : TypeId} {F : Value → Int → Prop} {gm N N' : Nat} {W : World} (h : HasMemo P k e F gm N W) (hN : N ≤ N') : HasMemo P k e F gm N' W := by
  obtain ⟨D, h1, h2⟩ := h
  exact ⟨D, h1.mono hN, h2⟩
theorem HasMemo.below {P : Program} {k e : TypeId} {F : Value → Int → Prop} {gm N : Nat} {W W' : World} (h : HasMemo P k e F gm N W) (hb : Below W.heap.size W W') : HasMemo P k e F gm N W' := by
  obtain ⟨D, h1, h2⟩ := h
  exact ⟨D, h1.kept (grown_of_below hb none) (by simp), h2⟩
theorem HasMemo.drew {P : Program} {k e : TypeId} {F : Value → Int → Prop} {gm N : Nat} {W : World} (h : HasMemo P k e F gm N W) : HasMemo P k e F gm N W.drew := by
  obtain ⟨D, h1, h2⟩ := h
  exact ⟨D, h1.drew, h2⟩
theorem HasMemo.lt {P : Program} {k e : TypeId} {F : Value → Int → Prop} {gm N : Nat} {W : World} (h : HasMemo P k e F gm N W) : gm < W.heap.size := by
  obtain ⟨D, h1, _⟩ := h
  exact h1.lt
theorem grown_refl_some (W : World) (g : Nat) : W.grownBy W (some g) := World.grownBy.refl W (some g)
theorem grown_after_below {w W W2 : World} {g : Nat} (hb : Below w.heap.size w W) (h : W.grownBy W2 (some g)) : w.grownBy W2 (some g) := (grown_of_below hb (some g)).trans h
theorem blk_grownB {W W2 : World} {g gm : Nat} {o : Obj} (h : W.heap[g]? = some o) (hg : W.grownBy W2 (some gm)) (hne : g ≠ gm) : W2.heap[g]? = some o := blk_grown h hg (fun e => hne (by injection e))
section
variable {P : Program} {ops : Array Oper} {S : World → Prop} {ds : List Nat} {md : Region.Mode} {Q : Exit → Act → World → Prop}
/-- A call of a function value in a region of open order. -/
theorem goesF_ {oi : Oper} {N : Option Tmp} {a : Act} {w : World} {K : Act → World → Prop} {g : FuncId} {x : Operand} {lb : Array Value} {as_ : Array Operand} {ts : Array TypeId} (eg : ∀ args w, (callFunc g args).run P w = .ok (.enter g args) w) (args : Array Value)
    (hw : Region.wanted oi (yielded ops a.tmps) = true) (hN : oi.dst = N) (hop : oi.op = .call { callee := .value x, args := as_, argTypes := ts }) (hx : a.eval x = .func (.func g) #[] lb) (hargs : as_.map a.eval = args)
    (h : Calls P g (args ++ lb) w fun e w' => ∃ v, e = .returned v ∧ K (a.put N v) w') : if Region.wanted oi (yielded ops a.tmps) = true then Oper.wp P oi a w K Q else K (a.put N undef) w := by
  refine call_ g (args ++ lb) hw hN ?_ h
  unfold execOp
  simp [hop, resolve, Deferred.ofValue, invoke, hx, hargs, eg]
/-- A map that is made. -/
theorem made_event {rest : List Oper} {o : Oper} {a : Act} {W : World} (hgd : o.guard = none) {N : Tmp} (_hd : o.dst = some N) (k : TypeId) (R : Value → Option (DataW Unit × List MemPlace))
    (hrun : (execOp a.eval o).run P W = .ok (.value (.map (some W.heap.size))) (W.alloc (.map #[] 0)))
    (h : ∀ g, g = W.heap.size → ∀ w1, w1.ownsMap P k R g 0 (.map []) → Below W.heap.size W w1 → wpList P ops Q rest (a.put o.dst (.map (some g))) w1) : wpList P ops Q (o :: rest) a W :=
  Kd.event_run hgd hrun (h _ rfl _ (World.ownsMap_made _ _ _ _) (below_alloc (Below.refl _ _) _))
theorem run_store_map_ {P : Program} {w : World} {a : Addr} {m : Mode} (g : Option Nat) : (store a (.map g) m).run P w = stored P w a (.map g) m := run_store P w a _ m rfl
end
/-! ### impl_Net_winners: function 58 -/
-- EXTERNAL: by hand
-- impl_Net_over impl_turn_open impl_turn_after slices_ContainsFunc_int64_int64_37 impl_bit
theorem turnKeyed : Go.Maps.Keyed Try.prog 72 := Go.Maps.Keyed.of_law (deep_law_laid (P := Try.prog) (by kernel_rfl) (m := 2) (by omega) (of_decide_eq_true (by kernel_rfl)) (by kernel_rfl) (by kernel_rfl))
theorem turnKey (s : ByteArray) (b : Bool) (h : s.size ≤ maxLen) : ∃ kl, keyOf Try.prog 72 (.agg #[.string s, .bool b]) = some kl := by
  have h1 : Try.prog.keyType 72 = true := by kernel_rfl
  have h2 : (Value.agg #[.string s, .bool b]).formed Try.prog 72 = true := by
    simp only [Value.formed, Try.underlying72]
    have : Try.prog.cellsOf 72 = 2 := by kernel_rfl
    rw [this]; rfl
  have h3 : Try.prog.keyLits (Try.prog.types.size + 1) 72 [.string s, .bool b] = some [.string s.data.toList, .bool b] := by
    obtain ⟨m, hm⟩ : ∃ m, Try.prog.types.size = m + 1 := ⟨Try.prog.types.size - 1, by kernel_rfl⟩
    have c0 : Try.prog.cellsOf 72 = 2 := by kernel_rfl
    have c1 : Try.prog.cellsOf 9 = 1 := by kernel_rfl
    have c2 : Try.prog.cellsOf 4 = 1 := by kernel_rfl
    rw [hm]
    simp [Program.keyLits, Try.underlying72, Try.underlying9, Try.underlying4, c0, c1, c2, h]
  unfold keyOf
  simp only [Try.underlying72]
  rw [h1, h2]
  simp only [Bool.and_self, if_true]
  rw [show (Value.agg #[Value.string s, Value.bool b]).cells.toList = [.string s, .bool b] from rfl, h3]
  exact ⟨_, rfl⟩
/-- What the map of winners keeps. -/
def WinF (l : List (List Int)) (v : Value) (c : Int) : Prop := ∀ s b, v = .agg #[.string s, .bool b] → c = netWin l s b
/-- How many entries a call with d open edges may make. -/
def winCnt : Nat → Nat
  | 0 => 1
  | d + 1 => (d + 1) * winCnt d + 1
theorem winCnt_pos (d : Nat) : 1 ≤ winCnt d := by cases d <;> simp [winCnt]
structure WinEnv (w0 : World) (gK gX gF gm : Nat) (p : Int) (A : Option Addr) (c : Nat) (l : List (List Int)) (N : Nat) (W : World) : Prop where
  below : Below w0.heap.size w0 W
  hk : W.heap[gK]? = some (.cells #[.map (some gm)] 84 (0, 0))
  hx : W.heap[gX]? = some (.cells #[.int .i64 p, .slice A l.length c] 33 (0, 0))
  hf : W.heap[gF]? = some (.cells #[.func (.func 77) #[] #[.pointer (some ⟨gK, 0, none⟩), .pointer (some ⟨gX, 0, none⟩), .pointer (some ⟨gF, 0, none⟩)]] 68 (0, 0))
  memo : HasMemo Try.prog 72 2 (WinF l) gm N W
  ne : gm ≠ gK ∧ gm ≠ gX ∧ gm ≠ gF
  base : w0.heap.size ≤ gm
theorem WinEnv.step {w0 : World} {gK gX gF gm : Nat} {p : Int} {A : Option Addr} {c : Nat} {l : List (List Int)} {N : Nat} {W W' : World} (h : WinEnv w0 gK gX gF gm p A c l N W) (hb : Below W.heap.size W W') : WinEnv w0 gK gX gF gm p A c l N W' :=
  ⟨below_step h.below hb, blk_below h.hk hb, blk_below h.hx hb, blk_below h.hf hb, h.memo.below hb, h.ne, h.base⟩
theorem WinEnv.drew {w0 : World} {gK gX gF gm : Nat} {p : Int} {A : Option Addr} {c : Nat} {l : List (List Int)} {N : Nat} {W : World} (h : WinEnv w0 gK gX gF gm p A c l N W) : WinEnv w0 gK gX gF gm p A c l N W.drew :=
  ⟨below_drew1 h.below, blk_drew h.hk, blk_drew h.hx, blk_drew h.hf, h.memo.drew, h.ne, h.base⟩
theorem WinEnv.mono {w0 : World} {gK gX gF gm : Nat} {p : Int} {A : Option Addr} {c : Nat} {l : List (List Int)} {N N' : Nat} {W : World} (h : WinEnv w0 gK gX gF gm p A c l N W) (hN : N ≤ N') : WinEnv w0 gK gX gF gm p A c l N' W :=
  ⟨h.below, h.hk, h.hx, h.hf, h.memo.mono hN, h.ne, h.base⟩
theorem after_val (s : ByteArray) (b : Bool) (k : Int) (h0 : 0 ≤ k) (h1 : k < (s.size : Int)) (hs : s.size ≤ 4611686018427387904) : impl_turn_after.f s b k = some (afterV s k b, !b) := by
  have hw : wrap64 (k + 1) = k + 1 := by unfold wrap64; omega
  have e1 : (⟨#[115]⟩ : ByteArray).size = 1 := rfl
  have e2 : (⟨#[99]⟩ : ByteArray).size = 1 := rfl
  unfold impl_turn_after.f afterV signV
  rw [hw]
  cases b with
  | true =>
    rw [if_pos rfl, if_pos h0, if_pos (by omega), if_pos (by rw [ByteArray.size_extract]; omega), if_pos (by omega), if_pos (by omega), if_pos (by rw [ByteArray.size_append, ByteArray.size_extract, ByteArray.size_extract, e1]; omega)]
    rfl
  | false =>
    rw [if_neg (by simp), if_pos h0, if_pos (by omega), if_pos (by rw [ByteArray.size_extract]; omega), if_pos (by omega), if_pos (by omega), if_pos (by rw [ByteArray.size_append, ByteArray.size_extract, ByteArray.size_extract, e2]; omega)]
    rfl
theorem eg_find : ∀ args w, (callFunc 77 args).run Try.prog w = .ok (.enter 77 args) w := enters_of Try.func77 (by kernel_rfl) rfl
theorem eg_wpred : ∀ args w, (callFunc 81 args).run Try.prog w = .ok (.enter 81 args) w := enters_of Try.func81 (by kernel_rfl) rfl
/-- What the finder does, for at most d open edges. -/
def FindDoes (w0 : World) (gK gX gF gm : Nat) (p : Int) (A : Option Addr) (c : Nat) (l : List (List Int)) (d : Nat) : Prop :=
  ∀ (s : ByteArray) (b : Bool) (N : Nat) (W : World), (freeV s).length ≤ d → s.size = l.length → WinEnv w0 gK gX gF gm p A c l N W → N + winCnt d < maxLen →
    Calls Try.prog 77 #[.agg #[.string s, .bool b], .pointer (some ⟨gK, 0, none⟩), .pointer (some ⟨gX, 0, none⟩), .pointer (some ⟨gF, 0, none⟩)] W fun e W' => e = .returned (.int .i64 (netWin l s b)) ∧ WinEnv w0 gK gX gF gm p A c l (N + winCnt d) W' ∧ W.grownBy W' (some gm)
def winPred.T1 : Bool × List (List Nat × List Nat) := (true, [([], []), ([], []), ([], []), ([1, 2], [1, 2]), ([0, 3, 3], [0, 3]), ([], []), ([4, 5], [4, 5]), ([6, 4, 0, 1, 2, 3, 4, 5, 6], [6])])
def winPred.B1 : List Nat := [0, 0, 0, 6, 15, 0, 63, 127]
theorem winPred.tab1 : rtab .any (opsOf Try.f81 1) = winPred.T1 := by kernel_rfl
theorem winPred.bits1 : waitsOk winPred.T1.2 winPred.B1 = true := by kernel_rfl
set_option maxHeartbeats 4000000 in
set_option maxRecDepth 100000 in
theorem winPred (w0 : World) (gK gX gF gm : Nat) (p : Int) (A : Option Addr) (c : Nat) (l : List (List Int)) (d : Nat) (IH : FindDoes w0 gK gX gF gm p A c l d) (hl : l.length ≤ 10)
    (gt go : Nat) (s : ByteArray) (b : Bool) (o : Int) (N : Nat) (W : World) (x : Int) (ht : W.heap[gt]? = some (.cells #[.string s, .bool b] 72 (0, 0))) (ho : W.heap[go]? = some (.cells #[.int .i64 o] 2 (0, 0))) (hne : gt ≠ gm ∧ go ≠ gm)
    (hx : x ∈ freeV s) (hd : (freeV s).length ≤ d + 1) (hs : s.size = l.length) (hE : WinEnv w0 gK gX gF gm p A c l N W) (hN : N + winCnt d < maxLen) :
    Calls Try.prog 81 #[.int .i64 x, .pointer (some ⟨gF, 0, none⟩), .pointer (some ⟨gt, 0, none⟩), .pointer (some ⟨go, 0, none⟩)] W fun e W' => e = .returned (.bool (netWin l (afterV s x b) (!b) == o)) ∧ WinEnv w0 gK gX gF gm p A c l (N + winCnt d) W' ∧ W.grownBy W' (some gm) := by
  obtain ⟨x0, x1, _⟩ := mem_chosenTo.1 hx
  have hav := after_val s b x x0 x1 (by omega)
  have hfl := free_less s x b hx
  have hsz : (afterV s x b).size = l.length := by
    obtain ⟨j, rfl⟩ : ∃ j : Nat, x = (j : Int) := ⟨x.toNat, by omega⟩
    rw [afterV_size s j b (by omega), hs]
  have HAV := Aside0.mk hav
  have HIH := Aside0.mk (fun W' hE' => IH (afterV s x b) (!b) N W' (by omega) hsz hE' hN)
  generalize afterV s x b = s' at HAV HIH
  generalize (!b) = b' at HAV HIH
  generalize netWin l s' b' = r at HIH ⊢
  have n1_ := Aside0.mk hE.drew
  have n2_ := Aside0.mk (blk_drew ht)
  have n3_ := Aside0.mk (blk_drew ho)
  have HNE := Aside0.mk hne
  have HGM := Aside0.mk hE.memo.lt
  have HWD := Aside0.mk (show Below W.heap.size W W.drew from below_drew1 (Below.refl _ _))
  have HNF := Aside0.mk hE.ne
  have hu := Try.underlying72
  clear IH ht ho hne hx hd hs hE hN x0 x1 hav hfl hsz
  go_enter Try.func81, Try.ntmps81
  try go_wp2
  refine start_ (n := 8) (S := fun w' => w'.cell? ⟨gF, 0, none⟩ = some (.func (.func 77) #[] #[.pointer (some ⟨gK, 0, none⟩), .pointer (some ⟨gX, 0, none⟩), .pointer (some ⟨gF, 0, none⟩)]) ∧ w'.cell? ⟨gt, 0, none⟩ = some (.string s) ∧ w'.cell? ⟨gt, 1, none⟩ = some (.bool b) ∧ w'.cell? ⟨go, 0, none⟩ = some (.int .i64 o)) (ds := []) #[false, false, false, false, false, false, false, false] (by kernel_rfl) rfl rfl ⟨(blk_cell n1_.out.hf 0).trans rfl, (blk_cell n2_.out 0).trans rfl, (blk_cell n2_.out 1).trans rfl, (blk_cell n3_.out 0).trans rfl⟩ (fun hHeld => ?_)
  refine with_tabW winPred.tab1 winPred.bits1 (fun HT_ HW_ => ?_)
  generalize hq_ : W.drew = wd_ at n1_ n2_ n3_ HWD hHeld ⊢
  clear hq_
  refine take_ (i := 0) (N := some 6) (v := ?_) (a' := ?_) #[true, false, false, false, false, false, false, false] rfl rfl (take_ofW HT_.out HW_.out (by kernel_rfl)) (fun _ _ _ h => h) (Or.inl ⟨by rfl, ?_⟩) hHeld ?_ ?_
  rotate_left
  · rintro w' ⟨s0, s1, s2, s3⟩
    go_simp
    with_reducible rfl
  rotate_left
  · simp only [Act.put, List.setIfInBounds_toArray, List.set_cons_zero, List.set_cons_succ, i64_w, i32_w]
    rfl
  refine take_ (i := 1) (N := some 7) (v := ?_) (a' := ?_) #[true, true, false, false, false, false, false, false] rfl rfl (take_ofW HT_.out HW_.out (by kernel_rfl)) (fun _ _ _ h => h) (Or.inl ⟨by rfl, ?_⟩) hHeld ?_ ?_
  rotate_left
  · rintro w' ⟨s0, s1, s2, s3⟩
    go_simp
    with_reducible rfl
  rotate_left
  · simp only [Act.put, List.setIfInBounds_toArray, List.set_cons_zero, List.set_cons_succ, i64_w, i32_w]
    rfl
  refine pure_ (i := 2) (N := some 8) (v := ?_) (a' := ?_) #[true, true, true, false, false, false, false, false] rfl rfl (any_of HT_.out (by kernel_rfl)) (fun _ _ _ h => h) (Or.inl ⟨by rfl, ?_⟩) ?_ ?_
  rotate_left
  · intro w'
    go_simp
    with_reducible rfl
  rotate_left
  · simp only [Act.put, List.setIfInBounds_toArray, List.set_cons_zero, List.set_cons_succ, i64_w, i32_w]
    rfl
  refine take_ (i := 5) (N := some 11) (v := ?_) (a' := ?_) #[true, true, true, false, false, true, false, false] rfl rfl (take_ofW HT_.out HW_.out (by kernel_rfl)) (fun _ _ _ h => h) (Or.inl ⟨by rfl, ?_⟩) hHeld ?_ ?_
  rotate_left
  · rintro w' ⟨s0, s1, s2, s3⟩
    go_simp
    with_reducible rfl
  rotate_left
  · simp only [Act.put, List.setIfInBounds_toArray, List.set_cons_zero, List.set_cons_succ, i64_w, i32_w]
    rfl
  refine one_ (i := 3) (N := some 9) #[true, true, true, true, false, true, false, false] rfl rfl (one_of HT_.out (by kernel_rfl)) (by decide) (fun K hK => ?_)
  refine goes_ Try.func82 (by kernel_rfl) rfl #[.agg #[.string s, .bool b], .int .i64 x] (by rfl) rfl rfl (by (try simp only [List.map_toArray, List.map_cons, List.map_nil]); first | done | rfl) ?_
  refine (impl_turn_after.calls s b x s' b' _ HAV.out).mono ?_
  rintro e wa_ ⟨rfl, hb⟩
  refine ⟨_, rfl, ?_⟩
  have HE2 := Aside0.mk (n1_.out.step hb)
  have HT2 := Aside0.mk (blk_below n2_.out hb)
  have HO2 := Aside0.mk (blk_below n3_.out hb)
  have HW2 := Aside0.mk (below_step HWD.out hb)
  clear hb n1_ n2_ n3_ HWD
  refine hK.out _ _ ⟨(blk_cell HE2.out.hf 0).trans rfl, (blk_cell HT2.out 0).trans rfl, (blk_cell HT2.out 1).trans rfl, (blk_cell HO2.out 0).trans rfl⟩ (fun hHeld => ?_)
  clear hK K
  refine norm_ (a' := ?_) ?_ ?_
  rotate_left
  · show Act.put _ (some 9) _ = _
    simp only [Act.put, List.setIfInBounds_toArray, List.set_cons_zero, List.set_cons_succ, i64_w, i32_w]
    rfl
  refine one_ (i := 4) (N := some 10) #[true, true, true, true, true, true, false, false] rfl rfl (one_of HT_.out (by kernel_rfl)) (by decide) (fun K hK => ?_)
  refine goesF_ (x := .tmp 6) (lb := #[.pointer (some ⟨gK, 0, none⟩), .pointer (some ⟨gX, 0, none⟩), .pointer (some ⟨gF, 0, none⟩)]) eg_find #[.agg #[.string s', .bool b']] (by rfl) rfl rfl rfl (by (try simp only [List.map_toArray, List.map_cons, List.map_nil]); first | done | rfl) ?_
  refine (HIH.out _ HE2.out).mono ?_
  rintro e wb_ ⟨rfl, hE3, hG3⟩
  refine ⟨_, rfl, ?_⟩
  have HE3 := Aside0.mk hE3
  have HT3 := Aside0.mk (blk_grownB HT2.out hG3 HNE.out.1)
  have HO3 := Aside0.mk (blk_grownB HO2.out hG3 HNE.out.2)
  have HG3 := Aside0.mk (grown_after_below HW2.out hG3)
  clear hE3 hG3 HT2 HO2 HE2 HW2
  refine hK.out _ _ ⟨(blk_cell HE3.out.hf 0).trans rfl, (blk_cell HT3.out 0).trans rfl, (blk_cell HT3.out 1).trans rfl, (blk_cell HO3.out 0).trans rfl⟩ (fun hHeld => ?_)
  clear hK K
  refine norm_ (a' := ?_) ?_ ?_
  rotate_left
  · show Act.put _ (some 10) _ = _
    simp only [Act.put, List.setIfInBounds_toArray, List.set_cons_zero, List.set_cons_succ, i64_w, i32_w]
    rfl
  refine pure_ (i := 6) (N := some 12) (v := ?_) (a' := ?_) #[true, true, true, true, true, true, true, false] rfl rfl (any_of HT_.out (by kernel_rfl)) (fun _ _ _ h => h) (Or.inl ⟨by rfl, ?_⟩) ?_ ?_
  rotate_left
  · intro w'
    go_simp
    with_reducible rfl
  rotate_left
  · simp only [Act.put, List.setIfInBounds_toArray, List.set_cons_zero, List.set_cons_succ, i64_w, i32_w]
    rfl
  refine pure_ (i := 7) (N := some 5) (v := ?_) (a' := ?_) #[true, true, true, true, true, true, true, true] rfl rfl (any_of HT_.out (by kernel_rfl)) (fun _ _ _ h => h) (Or.inl ⟨by rfl, ?_⟩) ?_ ?_
  rotate_left
  · intro w'
    go_simp
    with_reducible rfl
  rotate_left
  · simp only [Act.put, List.setIfInBounds_toArray, List.set_cons_zero, List.set_cons_succ, i64_w, i32_w]
    rfl
  refine done_ (done_of HT_.out (by kernel_rfl)) ?_
  go_wp2_with fail
  go_ret
  exact ⟨rfl, HE3.out, HG3.out⟩
/-- What goes on from call to call of the predicate. -/
def WinI (w0 : World) (gK gX gF gm : Nat) (p : Int) (A : Option Addr) (c : Nat) (l : List (List Int)) (d N : Nat) (w1 : World) (i : Nat) (W : World) : Prop := WinEnv w0 gK gX gF gm p A c l (N + i * winCnt (d - 1)) W ∧ w1.grownBy W (some gm)
theorem winI_reads {w0 w w1 : World} {gK gX gF gm : Nat} {p : Int} {A A31 : Option Addr} {c c31 : Nat} {l : List (List Int)} {d N : Nat} {xs : List Int} {i : Nat} {W : World} (ho : Kd.R (Kd.int .i64) 2 w1 w.heap.size (fun _ => True) (.slice A31 xs.length c31) xs) (hgm : gm < w.heap.size)
    (hI : WinI w0 gK gX gF gm p A c l d N w1 i W) : Kd.C (Kd.int .i64) W A31 xs.length xs :=
  (Kd.R_reads' (Kd.R_grown2 ho rfl hI.2 (fun k hk e => by cases hk; have := Kd.R_base ho _ e.symm; omega))).2.2
theorem cnt_step {d i f : Nat} (hi : i < f) (hf : f ≤ d) : i * winCnt (d - 1) + winCnt (d - 1) ≤ winCnt d := by
  cases d with
  | zero => omega
  | succ d =>
    have : (i + 1) * winCnt d ≤ (d + 1) * winCnt d := Nat.mul_le_mul_right _ (by omega)
    have e : (i + 1) * winCnt d = i * winCnt d + winCnt d := Nat.succ_mul _ _
    show i * winCnt d + winCnt d ≤ (d + 1) * winCnt d + 1
    omega
theorem cnt_last {d i f : Nat} (hi : i ≤ f) (hf : f ≤ d) : i * winCnt (d - 1) + 1 ≤ winCnt d := by
  cases d with
  | zero => have : i = 0 := by omega
            subst this; simp [winCnt]
  | succ d =>
    have : i * winCnt d ≤ (d + 1) * winCnt d := Nat.mul_le_mul_right _ (by omega)
    show i * winCnt d + 1 ≤ (d + 1) * winCnt d + 1
    omega
theorem winI_pred (w0 : World) (gK gX gF gm : Nat) (p : Int) (A : Option Addr) (c : Nat) (l : List (List Int)) (d : Nat) (IH : d ≠ 0 → FindDoes w0 gK gX gF gm p A c l (d - 1)) (hl : l.length ≤ 10)
    (gt go : Nat) (s : ByteArray) (b : Bool) (o : Int) (N : Nat) (w1 : World) (hd : (freeV s).length ≤ d) (hs : s.size = l.length) (ht : w1.heap[gt]? = some (.cells #[.string s, .bool b] 72 (0, 0))) (ho : w1.heap[go]? = some (.cells #[.int .i64 o] 2 (0, 0))) (hne : gt ≠ gm ∧ go ≠ gm)
    (hN : N + winCnt d < maxLen) : ∀ i W x, i < (freeV s).length → WinI w0 gK gX gF gm p A c l d N w1 i W → x ∈ freeV s →
      Calls Try.prog 81 (#[.int .i64 x] ++ #[.pointer (some ⟨gF, 0, none⟩), .pointer (some ⟨gt, 0, none⟩), .pointer (some ⟨go, 0, none⟩)]) W fun e W' => e = .returned (.bool (netWin l (afterV s x b) (!b) == o)) ∧ WinI w0 gK gX gF gm p A c l d N w1 (i + 1) W' := by
  intro i W x hi hI hx
  have hst := cnt_step hi hd
  have h := winPred w0 gK gX gF gm p A c l (d - 1) (IH (by omega)) hl gt go s b o (N + i * winCnt (d - 1)) W x (blk_grownB ht hI.2 hne.1) (blk_grownB ho hI.2 hne.2) hne hx (by omega) hs hI.1 (by omega)
  refine h.mono ?_
  rintro e W' ⟨rfl, hE, hG⟩
  refine ⟨rfl, ?_, hI.2.trans hG⟩
  have e2 : N + i * winCnt (d - 1) + winCnt (d - 1) = N + (i + 1) * winCnt (d - 1) := by rw [Nat.succ_mul]; omega
  rw [← e2]
  exact hE
theorem wf_small {v : Int} (h0 : 0 ≤ v) (h1 : v ≤ 2) : (Lit.int .i64 v).wf = true := by
  have : v = wrap64 v := by unfold wrap64; omega
  rw [this]; exact wrap64_wf v
theorem bit_ex (b : Bool) : ∃ bv : Int, impl_bit.f b = some bv ∧ ownV b = 2 - bv ∧ 0 ≤ bv ∧ bv ≤ 1 := by
  cases b
  · exact ⟨0, by simp [impl_bit.f], rfl, by omega, by omega⟩
  · exact ⟨1, by simp [impl_bit.f], rfl, by omega, by omega⟩
/-- Behind the last store. -/
theorem find_env {w0 : World} {gK gX gF gm : Nat} {p : Int} {A : Option Addr} {c : Nat} {l : List (List Int)} {N N' n : Nat} {W W' : World} {D : DataW Unit} (h : WinEnv w0 gK gX gF gm p A c l N W) (ho : W'.ownsMap Try.prog 72 (plainElem Try.prog 2) gm n D) (hm : Memo Try.prog 72 (WinF l) D) (hg : W.grownBy W' (some gm)) (hn : n ≤ N') : WinEnv w0 gK gX gF gm p A c l N' W' :=
  ⟨h.below.grown hg h.below.size (fun k hk => by cases hk; exact h.base), blk_grownB h.hk hg h.ne.1.symm, blk_grownB h.hx hg h.ne.2.1.symm, blk_grownB h.hf hg h.ne.2.2.symm, ⟨D, ho.mono hn, hm⟩, h.ne, h.base⟩
set_option maxHeartbeats 8000000 in
set_option maxRecDepth 100000 in
theorem find_step (w0 : World) (gK gX gF gm : Nat) (p : Int) (A : Option Addr) (c : Nat) (l : List (List Int)) (hv : isNetV p l = true) (hr : Kd.C (Kd.slice 2 (Kd.int .i64)) w0 A l.length l) (hc : l.length ≤ c) (d : Nat) (IH : d ≠ 0 → FindDoes w0 gK gX gF gm p A c l (d - 1)) : FindDoes w0 gK gX gF gm p A c l d := by
  intro s b N w hd hs hE hN
  have hl := (netEdges hv).1.1
  have hov : impl_Net_over.f p l s = some (ovV l s) := by unfold impl_Net_over.f; rw [if_pos ⟨hv, hs⟩]
  obtain ⟨D, hown, hmem⟩ := hE.memo
  obtain ⟨kl, hkl⟩ := turnKey s b (by unfold maxLen; omega)
  obtain ⟨bv, hbv, how, hb0, hb1⟩ := bit_ex b
  have hfl : (freeV s).length ≤ s.size := chosenTo_le _ _
  have hfr : impl_turn_open.f s b = some (freeV s) := by unfold impl_turn_open.f; rw [if_pos (by omega)]
  have hwr := netWin_range l s b
  have hor := ovV_range l s
  have hnw := netWin_eq l s b
  have HE := Aside0.mk hE
  have HM := Aside0.mk hown
  have HMM := Aside0.mk hmem
  have HKL := Aside0.mk hkl
  have HBV := Aside0.mk hbv
  have HFL := Aside0.mk (show (freeV s).length ≤ 10 by omega)
  have HFR := Aside0.mk hfr
  have HWR := Aside0.mk hwr
  have HIH := Aside0.mk IH
  have HL10 := Aside0.mk hl
  have HD := Aside0.mk hd
  have HSS := Aside0.mk hs
  have HNB := Aside0.mk hN
  have HCP := Aside0.mk (winCnt_pos d)
  have HR := Aside0.mk hr
  have HC0 := Aside0.mk hc
  have HGM := Aside0.mk (show gm < w.heap.size from hown.lt)
  have HBW := Aside0.mk hE.below
  have HSZ := Aside0.mk hE.below.size
  have HB := Aside0.mk (Below.refl w.heap.size w)
  have HXK := Aside0.mk hE.hk
  have HXX := Aside0.mk hE.hx
  have HXF := Aside0.mk hE.hf
  have hck0 := (blk_cell HXK.out 0).trans rfl
  have hcx0 := (blk_cell HXX.out 0).trans rfl
  have hcx1 := (blk_cell HXX.out 1).trans rfl
  have zeroE : ∀ W : World, (zeroValue 2).run Try.prog W = .ok (.int .i64 0) W := fun W => by kernel_rfl
  have hu := Try.underlying72
  have hu2 := Try.underlying33
  have HOV := Aside0.mk hov
  obtain ⟨hb, hhas⟩ : ∃ hb, Go.Maps.has D kl = hb := ⟨_, rfl⟩
  have HHAS := Aside0.mk hhas
  clear IH hE hown hmem hkl hbv hfl hfr hwr hl hd hs hN hr hc hov hv hhas
  cases hb with
  | true =>
    clear hnw how hb0 hb1 hor
    go_enter Try.func77, Try.ntmps77
    go_wp2_with (first | ((with_reducible refine gate_dst (N := 4) rfl ?_); refine box_event ?hg (N := 4) ?hd (cs := #[.string s, .bool b]) (t := 72) ?hr ?_; (case hd => rfl); (case hg => rfl); (case hr => first | (go_simp; done) | (go_simp; rfl)); intro g4 hg_ w_ hbox hb; have HX4 := Aside0.mk hbox; have HG4 := Aside0.mk (show w.heap.size ≤ g4 ∧ gK ≠ g4 ∧ gX ≠ g4 ∧ gF ≠ g4 by have := below_size HB.out; have := blk_lt HXK.out; have := blk_lt HXX.out; have := blk_lt HXF.out; omega); (try clear hck0); (try clear hcx0); (try clear hcx1); clear hbox hg_; have nHB_ := Aside0.mk (below_step HB.out hb); have nHXK_ := Aside0.mk (blk_below HXK.out hb); have nHXX_ := Aside0.mk (blk_below HXX.out hb); have nHXF_ := Aside0.mk (blk_below HXF.out hb); have nHM_ := Aside0.mk (HM.out.kept (grown_of_below hb none) (by simp)); clear HB HXK HXX HXF HM hb; have HB := nHB_; have HXK := nHXK_; have HXX := nHXX_; have HXF := nHXF_; have HM := nHM_; clear nHB_ nHXK_ nHXX_ nHXF_ nHM_; have hck0 := (blk_cell HXK.out 0).trans rfl; have hcx0 := (blk_cell HXX.out 0).trans rfl; have hcx1 := (blk_cell HXX.out 1).trans rfl; have hc40 := (blk_cell HX4.out 0).trans rfl; have hc41 := (blk_cell HX4.out 1).trans rfl; have HGM4 := Aside0.mk (show g4 ≠ gm by have := HGM.out; have := HG4.out; omega)) | (at_lookup; refine wpList_lookup_own_ok_int _ rfl _ _ 84 rfl 72 2 .i64 turnKeyed Try.underlying84 Try.underlying2 (zeroE _) gm N D rfl HM.out _ kl rfl HKL.out ?_; intro c1 hat hwc; have HAT := Aside0.mk hat; clear hat hwc; rw [HHAS.out]))
    have hc1 : c1 = netWin l s b := HMM.out _ kl c1 HKL.out HHAS.out HAT.out s b rfl
    go_ret
    exact ⟨by rw [hc1]; rfl, (HE.out.step HB.out).mono (by omega), grown_of_below HB.out _⟩
  | false =>
    generalize hov2 : ovV l s = ov at HOV hnw hor
    by_cases ho : ov = 0
    case neg =>
      have hoz : (ov == 0) = false := beq_eq_false_iff_ne.mpr ho
      rw [if_neg ho] at hnw
      have HNW := Aside0.mk hnw
      have HOR := Aside0.mk hor
      clear hnw how hb0 hb1 ho hov2 hor
      go_enter Try.func77, Try.ntmps77
      go_wp2_with (first | ((with_reducible refine gate_dst (N := 4) rfl ?_); refine box_event ?hg (N := 4) ?hd (cs := #[.string s, .bool b]) (t := 72) ?hr ?_; (case hd => rfl); (case hg => rfl); (case hr => first | (go_simp; done) | (go_simp; rfl)); intro g4 hg_ w_ hbox hb; have HX4 := Aside0.mk hbox; have HG4 := Aside0.mk (show w.heap.size ≤ g4 ∧ gK ≠ g4 ∧ gX ≠ g4 ∧ gF ≠ g4 by have := below_size HB.out; have := blk_lt HXK.out; have := blk_lt HXX.out; have := blk_lt HXF.out; omega); (try clear hck0); (try clear hcx0); (try clear hcx1); clear hbox hg_; have nHB_ := Aside0.mk (below_step HB.out hb); have nHXK_ := Aside0.mk (blk_below HXK.out hb); have nHXX_ := Aside0.mk (blk_below HXX.out hb); have nHXF_ := Aside0.mk (blk_below HXF.out hb); have nHM_ := Aside0.mk (HM.out.kept (grown_of_below hb none) (by simp)); clear HB HXK HXX HXF HM hb; have HB := nHB_; have HXK := nHXK_; have HXX := nHXX_; have HXF := nHXF_; have HM := nHM_; clear nHB_ nHXK_ nHXX_ nHXF_ nHM_; have hck0 := (blk_cell HXK.out 0).trans rfl; have hcx0 := (blk_cell HXX.out 0).trans rfl; have hcx1 := (blk_cell HXX.out 1).trans rfl; have hc40 := (blk_cell HX4.out 0).trans rfl; have hc41 := (blk_cell HX4.out 1).trans rfl; have HGM4 := Aside0.mk (show g4 ≠ gm by have := HGM.out; have := HG4.out; omega)) | (at_lookup; refine wpList_lookup_own_ok_int _ rfl _ _ 84 rfl 72 2 .i64 turnKeyed Try.underlying84 Try.underlying2 (zeroE _) gm N D rfl HM.out _ kl rfl HKL.out ?_; intro c1 hat hwc; have HAT := Aside0.mk hat; clear hat hwc; rw [HHAS.out]) | (go_at_call 78; refine (impl_Net_over.calls p A c l s ov _ (Kd.C_below HR.out (below_step HBW.out HB.out)) HC0.out HOV.out).mono ?_; rintro e w_ ⟨rfl, hb⟩; (try clear hck0); (try clear hcx0); (try clear hcx1); (try clear hc40); (try clear hc41); have nHB_ := Aside0.mk (below_step HB.out hb); have nHXK_ := Aside0.mk (blk_below HXK.out hb); have nHXX_ := Aside0.mk (blk_below HXX.out hb); have nHXF_ := Aside0.mk (blk_below HXF.out hb); have nHM_ := Aside0.mk (HM.out.kept (grown_of_below hb none) (by simp)); have nHX4_ := Aside0.mk (blk_below HX4.out hb); clear HB HXK HXX HXF HM HX4 hb; have HB := nHB_; have HXK := nHXK_; have HXX := nHXX_; have HXF := nHXF_; have HM := nHM_; have HX4 := nHX4_; clear nHB_ nHXK_ nHXX_ nHXF_ nHM_ nHX4_; have hck0 := (blk_cell HXK.out 0).trans rfl; have hcx0 := (blk_cell HXX.out 0).trans rfl; have hcx1 := (blk_cell HXX.out 1).trans rfl; have hc40 := (blk_cell HX4.out 0).trans rfl; have hc41 := (blk_cell HX4.out 1).trans rfl) | (at_mapUpdate; refine wpList_mapUpdate_own _ rfl _ _ _ 84 rfl 72 2 turnKeyed Try.underlying84 _ gm (N) _ rfl HM.out (by have := HNB.out; have := HCP.out; omega) _ _ kl rfl rfl HKL.out _ [] (plainElem_int Try.underlying2 (wf_small HOR.out.1 HOR.out.2)) ?_; intro w4_ hown4 hg4_; have HW4 := Aside0.mk hown4; have HG4_ := Aside0.mk hg4_; clear hown4 hg4_))
      go_ret
      exact ⟨by rw [HNW.out]; rfl, find_env (HE.out.step HB.out) HW4.out (HMM.out.put turnKeyed (HM.out.isMap) HKL.out (fun s' b' e => by injection e with e; injection e with e; simp only [List.cons.injEq, Value.string.injEq, Value.bool.injEq, and_true] at e; obtain ⟨rfl, rfl⟩ := e; exact HNW.out.symm)) HG4_.out (by have := HCP.out; omega), grown_after_below HB.out HG4_.out⟩
    case pos =>
      have hoz : (ov == 0) = true := beq_iff_eq.mpr ho
      rw [if_pos ho] at hnw
      obtain ⟨ow, hoe⟩ : ∃ ow : Int, ow = 2 - bv := ⟨_, rfl⟩
      rw [how, ← hoe] at hnw
      have HOW := Aside0.mk hoe
      have ho1 : 1 ≤ ow := by omega
      have ho2 : ow ≤ 2 := by omega
      obtain ⟨an, han⟩ : ∃ an, (freeV s).any (fun k => netWin l (afterV s k b) (!b) == ow) = an := ⟨_, rfl⟩
      rw [han] at hnw
      have HANY := Aside0.mk han
      have HNW := Aside0.mk hnw
      clear ho hov2 how hoe han hnw hor
      cases an with
      | true =>
        go_enter Try.func77, Try.ntmps77
        go_wp2_with (first | ((with_reducible refine gate_dst (N := 4) rfl ?_); refine box_event ?hg (N := 4) ?hd (cs := #[.string s, .bool b]) (t := 72) ?hr ?_; (case hd => rfl); (case hg => rfl); (case hr => first | (go_simp; done) | (go_simp; rfl)); intro g4 hg_ w_ hbox hb; have HX4 := Aside0.mk hbox; have HG4 := Aside0.mk (show w.heap.size ≤ g4 ∧ gK ≠ g4 ∧ gX ≠ g4 ∧ gF ≠ g4 by have := below_size HB.out; have := blk_lt HXK.out; have := blk_lt HXX.out; have := blk_lt HXF.out; omega); (try clear hck0); (try clear hcx0); (try clear hcx1); clear hbox hg_; have nHB_ := Aside0.mk (below_step HB.out hb); have nHXK_ := Aside0.mk (blk_below HXK.out hb); have nHXX_ := Aside0.mk (blk_below HXX.out hb); have nHXF_ := Aside0.mk (blk_below HXF.out hb); have nHM_ := Aside0.mk (HM.out.kept (grown_of_below hb none) (by simp)); clear HB HXK HXX HXF HM hb; have HB := nHB_; have HXK := nHXK_; have HXX := nHXX_; have HXF := nHXF_; have HM := nHM_; clear nHB_ nHXK_ nHXX_ nHXF_ nHM_; have hck0 := (blk_cell HXK.out 0).trans rfl; have hcx0 := (blk_cell HXX.out 0).trans rfl; have hcx1 := (blk_cell HXX.out 1).trans rfl; have hc40 := (blk_cell HX4.out 0).trans rfl; have hc41 := (blk_cell HX4.out 1).trans rfl; have HGM4 := Aside0.mk (show g4 ≠ gm by have := HGM.out; have := HG4.out; omega)) | (at_lookup; refine wpList_lookup_own_ok_int _ rfl _ _ 84 rfl 72 2 .i64 turnKeyed Try.underlying84 Try.underlying2 (zeroE _) gm N D rfl HM.out _ kl rfl HKL.out ?_; intro c1 hat hwc; have HAT := Aside0.mk hat; clear hat hwc; rw [HHAS.out]) | (go_at_call 78; refine (impl_Net_over.calls p A c l s ov _ (Kd.C_below HR.out (below_step HBW.out HB.out)) HC0.out HOV.out).mono ?_; rintro e w_ ⟨rfl, hb⟩; (try clear hck0); (try clear hcx0); (try clear hcx1); (try clear hc40); (try clear hc41); have nHB_ := Aside0.mk (below_step HB.out hb); have nHXK_ := Aside0.mk (blk_below HXK.out hb); have nHXX_ := Aside0.mk (blk_below HXX.out hb); have nHXF_ := Aside0.mk (blk_below HXF.out hb); have nHM_ := Aside0.mk (HM.out.kept (grown_of_below hb none) (by simp)); have nHX4_ := Aside0.mk (blk_below HX4.out hb); clear HB HXK HXX HXF HM HX4 hb; have HB := nHB_; have HXK := nHXK_; have HXX := nHXX_; have HXF := nHXF_; have HM := nHM_; have HX4 := nHX4_; clear nHB_ nHXK_ nHXX_ nHXF_ nHM_ nHX4_; have hck0 := (blk_cell HXK.out 0).trans rfl; have hcx0 := (blk_cell HXX.out 0).trans rfl; have hcx1 := (blk_cell HXX.out 1).trans rfl; have hc40 := (blk_cell HX4.out 0).trans rfl; have hc41 := (blk_cell HX4.out 1).trans rfl) | (go_at_call 79; refine (impl_bit.calls b bv _ HBV.out).mono ?_; rintro e w_ ⟨rfl, hd⟩; have hb := hd.below; clear hd; (try clear hck0); (try clear hcx0); (try clear hcx1); (try clear hc40); (try clear hc41); have nHB_ := Aside0.mk (below_step HB.out hb); have nHXK_ := Aside0.mk (blk_below HXK.out hb); have nHXX_ := Aside0.mk (blk_below HXX.out hb); have nHXF_ := Aside0.mk (blk_below HXF.out hb); have nHM_ := Aside0.mk (HM.out.kept (grown_of_below hb none) (by simp)); have nHX4_ := Aside0.mk (blk_below HX4.out hb); clear HB HXK HXX HXF HM HX4 hb; have HB := nHB_; have HXK := nHXK_; have HXX := nHXX_; have HXF := nHXF_; have HM := nHM_; have HX4 := nHX4_; clear nHB_ nHXK_ nHXX_ nHXF_ nHM_ nHX4_; have hck0 := (blk_cell HXK.out 0).trans rfl; have hcx0 := (blk_cell HXX.out 0).trans rfl; have hcx1 := (blk_cell HXX.out 1).trans rfl; have hc40 := (blk_cell HX4.out 0).trans rfl; have hc41 := (blk_cell HX4.out 1).trans rfl) | ((with_reducible refine gate_dst (N := 9) rfl ?_); refine box_event ?hg (N := 9) ?hd (cs := #[.int .i64 0]) (t := 2) ?hr ?_; (case hd => rfl); (case hg => rfl); (case hr => first | (go_simp; done) | (go_simp; rfl)); intro g9 hg_ w_ hbox hb; have HX9 := Aside0.mk hbox; have HG9 := Aside0.mk (show w.heap.size ≤ g9 ∧ gm < w.heap.size ∧ gK ≠ g9 ∧ gX ≠ g9 ∧ gF ≠ g9 ∧ g4 ≠ g9 by have := below_size HB.out; have := HGM.out; have := blk_lt HXK.out; have := blk_lt HXX.out; have := blk_lt HXF.out; have := blk_lt HX4.out; omega); (try clear hck0); (try clear hcx0); (try clear hcx1); (try clear hc40); (try clear hc41); clear hbox hg_; have nHB_ := Aside0.mk (below_step HB.out hb); have nHXK_ := Aside0.mk (blk_below HXK.out hb); have nHXX_ := Aside0.mk (blk_below HXX.out hb); have nHXF_ := Aside0.mk (blk_below HXF.out hb); have nHM_ := Aside0.mk (HM.out.kept (grown_of_below hb none) (by simp)); have nHX4_ := Aside0.mk (blk_below HX4.out hb); clear HB HXK HXX HXF HM HX4 hb; have HB := nHB_; have HXK := nHXK_; have HXX := nHXX_; have HXF := nHXF_; have HM := nHM_; have HX4 := nHX4_; clear nHB_ nHXK_ nHXX_ nHXF_ nHM_ nHX4_; have hck0 := (blk_cell HXK.out 0).trans rfl; have hcx0 := (blk_cell HXX.out 0).trans rfl; have hcx1 := (blk_cell HXX.out 1).trans rfl; have hc40 := (blk_cell HX4.out 0).trans rfl; have hc41 := (blk_cell HX4.out 1).trans rfl; have hc90 := (blk_cell HX9.out 0).trans rfl; have HGM9 := Aside0.mk (show gm ≠ g9 by have := HGM.out; have := HG9.out; omega)) | ((with_reducible refine gate_store (t := 2) (p := 9) rfl ?_); have hfz_ := blk_frozen HX9.out 0; refine store_event (t := 2) (p := 9) (v := .tmp 27) (w1 := (w_.setCell ⟨g9, 0, none⟩ (.int .i64 (2 - bv)))) ?hg ?ho ?hn ?hr ?_; (case ho => rfl); (case hg => rfl); (case hn => rfl); (case hr => first | (go_simp; done) | (go_simp; rfl)); intro w2_ hw_; clear hfz_; have nHB_ := Aside0.mk ((below_set HB.out HG9.out.1 : Below w.heap.size w (w_.setCell ⟨g9, 0, none⟩ (.int .i64 (2 - bv))))); have nHXK_ := Aside0.mk (blk_far (p := ⟨g9, 0, none⟩) HXK.out (show gK ≠ g9 by have := HG9.out; omega) (.int .i64 (2 - bv))); have nHXX_ := Aside0.mk (blk_far (p := ⟨g9, 0, none⟩) HXX.out (show gX ≠ g9 by have := HG9.out; omega) (.int .i64 (2 - bv))); have nHXF_ := Aside0.mk (blk_far (p := ⟨g9, 0, none⟩) HXF.out (show gF ≠ g9 by have := HG9.out; omega) (.int .i64 (2 - bv))); have nHM_ := Aside0.mk (HM.out.setCell (a := ⟨g9, 0, none⟩) (show gm ≠ g9 by have := HG9.out; omega) (.int .i64 (2 - bv))); have nHX4_ := Aside0.mk (blk_far (p := ⟨g9, 0, none⟩) HX4.out (show g4 ≠ g9 by have := HG9.out; omega) (.int .i64 (2 - bv))); have nHX9_ := Aside0.mk (blk_put HX9.out 0 (.int .i64 (2 - bv)) rfl); replace nHB_ := nHB_.out; rw [← hw_] at nHB_; replace nHXK_ := nHXK_.out; rw [← hw_] at nHXK_; replace nHXX_ := nHXX_.out; rw [← hw_] at nHXX_; replace nHXF_ := nHXF_.out; rw [← hw_] at nHXF_; replace nHM_ := nHM_.out; rw [← hw_] at nHM_; replace nHX4_ := nHX4_.out; rw [← hw_] at nHX4_; replace nHX9_ := nHX9_.out; rw [← hw_] at nHX9_; (try clear hck0); (try clear hcx0); (try clear hcx1); (try clear hc40); (try clear hc41); (try clear hc90); clear hw_ HB HXK HXX HXF HM HX4 HX9; have HB := Aside0.mk nHB_; have HXK := Aside0.mk nHXK_; have HXX := Aside0.mk nHXX_; have HXF := Aside0.mk nHXF_; have HM := Aside0.mk nHM_; have HX4 := Aside0.mk nHX4_; have HX9 := Aside0.mk nHX9_; clear nHB_ nHXK_ nHXX_ nHXF_ nHM_ nHX4_ nHX9_; have hck0 := (blk_cell HXK.out 0).trans rfl; have hcx0 := (blk_cell HXX.out 0).trans rfl; have hcx1 := (blk_cell HXX.out 1).trans rfl; have hc40 := (blk_cell HX4.out 0).trans rfl; have hc41 := (blk_cell HX4.out 1).trans rfl; have hc90 := (blk_cell HX9.out 0).trans rfl; have t_ := HX9.out; rw [← HOW.out] at t_; clear HX9 hc90; have HX9 := Aside0.mk t_; clear t_; have hc90 := (blk_cell HX9.out 0).trans rfl; clear hb0 hb1) | (go_at_call 80; refine (impl_turn_open.calls s b (freeV s) _ HFR.out).mono ?_; rintro e w_ ⟨v31, rfl, ho, hb⟩; obtain ⟨A31, c31, e31⟩ := Kd.R_slice ho; subst e31; have HO := Aside0.mk (Kd.R_lower ho (below_size HB.out)); clear ho; (try clear hck0); (try clear hcx0); (try clear hcx1); (try clear hc40); (try clear hc41); (try clear hc90); have nHB_ := Aside0.mk (below_step HB.out hb); have nHXK_ := Aside0.mk (blk_below HXK.out hb); have nHXX_ := Aside0.mk (blk_below HXX.out hb); have nHXF_ := Aside0.mk (blk_below HXF.out hb); have nHM_ := Aside0.mk (HM.out.kept (grown_of_below hb none) (by simp)); have nHX4_ := Aside0.mk (blk_below HX4.out hb); have nHX9_ := Aside0.mk (blk_below HX9.out hb); clear HB HXK HXX HXF HM HX4 HX9 hb; have HB := nHB_; have HXK := nHXK_; have HXX := nHXX_; have HXF := nHXF_; have HM := nHM_; have HX4 := nHX4_; have HX9 := nHX9_; clear nHB_ nHXK_ nHXX_ nHXF_ nHM_ nHX4_ nHX9_; have hck0 := (blk_cell HXK.out 0).trans rfl; have hcx0 := (blk_cell HXX.out 0).trans rfl; have hcx1 := (blk_cell HXX.out 1).trans rfl; have hc40 := (blk_cell HX4.out 0).trans rfl; have hc41 := (blk_cell HX4.out 1).trans rfl; have hc90 := (blk_cell HX9.out 0).trans rfl) | (go_at_call 37; have HE1 := Aside0.mk (WinEnv.step HE.out HB.out); refine (slices_ContainsFunc_int64_int64_37.callsI 81 _ (fun k => netWin l (afterV s k b) (!b) == ow) eg_wpred (WinI w0 gK gX gF gm p A c l d N w_) A31 c31 (freeV s) _ ⟨HE1.out.mono (Nat.le_add_right _ _), grown_refl_some _ _⟩ (winI_pred w0 gK gX gF gm p A c l d HIH.out HL10.out g4 g9 s b ow N _ (HD.out) HSS.out HX4.out HX9.out (by have := HGM.out; have := HG4.out; have := HG9.out; omega) HNB.out) (fun i W hI => winI_reads HO.out HGM.out hI) (by have := HFL.out; omega)).mono ?_; rintro e w3_ ⟨rfl, i, hi, hE3, hG3⟩; rw [HANY.out]; have HE3 := Aside0.mk hE3; have HG3_ := Aside0.mk hG3; have HII := Aside0.mk hi; have HG4B := Aside0.mk (blk_grownB HX4.out hG3 (by have := HGM.out; have := HG4.out; omega)); have HG9B := Aside0.mk (blk_grownB HX9.out hG3 (by have := HGM.out; have := HG9.out; omega)); have HB3 := Aside0.mk (grown_after_below HB.out hG3); obtain ⟨D2, hown2, hmem2⟩ := hE3.memo; have HM2 := Aside0.mk hown2; have HMM2 := Aside0.mk hmem2; (try clear hck0); (try clear hcx0); (try clear hcx1); (try clear hc40); (try clear hc41); (try clear hc90); clear hE3 hG3 hi hown2 hmem2 HM HX4 HX9 HXK HXX HXF; have hck0 := (blk_cell HE3.out.hk 0).trans rfl; have hc40 := (blk_cell HG4B.out 0).trans rfl; have hc41 := (blk_cell HG4B.out 1).trans rfl; have hc90 := (blk_cell HG9B.out 0).trans rfl) | (at_mapUpdate; refine wpList_mapUpdate_own _ rfl _ _ _ 84 rfl 72 2 turnKeyed Try.underlying84 _ gm (N + i * winCnt (d - 1)) _ rfl HM2.out (by have := HNB.out; have := HCP.out; have := cnt_last HII.out HD.out; omega) _ _ kl rfl rfl HKL.out _ [] (plainElem_int Try.underlying2 (wf_small (v := ow) (by omega) (by omega))) ?_; intro w4_ hown4 hg4_; have HW4 := Aside0.mk hown4; have HG4_ := Aside0.mk hg4_; clear hown4 hg4_))
        go_ret
        exact ⟨by rw [HNW.out]; rfl, find_env HE3.out HW4.out (HMM2.out.put turnKeyed (HM2.out.isMap) HKL.out (fun s' b' e => by injection e with e; injection e with e; simp only [List.cons.injEq, Value.string.injEq, Value.bool.injEq, and_true] at e; obtain ⟨rfl, rfl⟩ := e; rw [HNW.out]; rfl)) HG4_.out (by have := cnt_last HII.out HD.out; omega), HB3.out.trans HG4_.out⟩
      | false =>
        go_enter Try.func77, Try.ntmps77
        go_wp2_with (first | ((with_reducible refine gate_dst (N := 4) rfl ?_); refine box_event ?hg (N := 4) ?hd (cs := #[.string s, .bool b]) (t := 72) ?hr ?_; (case hd => rfl); (case hg => rfl); (case hr => first | (go_simp; done) | (go_simp; rfl)); intro g4 hg_ w_ hbox hb; have HX4 := Aside0.mk hbox; have HG4 := Aside0.mk (show w.heap.size ≤ g4 ∧ gK ≠ g4 ∧ gX ≠ g4 ∧ gF ≠ g4 by have := below_size HB.out; have := blk_lt HXK.out; have := blk_lt HXX.out; have := blk_lt HXF.out; omega); (try clear hck0); (try clear hcx0); (try clear hcx1); clear hbox hg_; have nHB_ := Aside0.mk (below_step HB.out hb); have nHXK_ := Aside0.mk (blk_below HXK.out hb); have nHXX_ := Aside0.mk (blk_below HXX.out hb); have nHXF_ := Aside0.mk (blk_below HXF.out hb); have nHM_ := Aside0.mk (HM.out.kept (grown_of_below hb none) (by simp)); clear HB HXK HXX HXF HM hb; have HB := nHB_; have HXK := nHXK_; have HXX := nHXX_; have HXF := nHXF_; have HM := nHM_; clear nHB_ nHXK_ nHXX_ nHXF_ nHM_; have hck0 := (blk_cell HXK.out 0).trans rfl; have hcx0 := (blk_cell HXX.out 0).trans rfl; have hcx1 := (blk_cell HXX.out 1).trans rfl; have hc40 := (blk_cell HX4.out 0).trans rfl; have hc41 := (blk_cell HX4.out 1).trans rfl; have HGM4 := Aside0.mk (show g4 ≠ gm by have := HGM.out; have := HG4.out; omega)) | (at_lookup; refine wpList_lookup_own_ok_int _ rfl _ _ 84 rfl 72 2 .i64 turnKeyed Try.underlying84 Try.underlying2 (zeroE _) gm N D rfl HM.out _ kl rfl HKL.out ?_; intro c1 hat hwc; have HAT := Aside0.mk hat; clear hat hwc; rw [HHAS.out]) | (go_at_call 78; refine (impl_Net_over.calls p A c l s ov _ (Kd.C_below HR.out (below_step HBW.out HB.out)) HC0.out HOV.out).mono ?_; rintro e w_ ⟨rfl, hb⟩; (try clear hck0); (try clear hcx0); (try clear hcx1); (try clear hc40); (try clear hc41); have nHB_ := Aside0.mk (below_step HB.out hb); have nHXK_ := Aside0.mk (blk_below HXK.out hb); have nHXX_ := Aside0.mk (blk_below HXX.out hb); have nHXF_ := Aside0.mk (blk_below HXF.out hb); have nHM_ := Aside0.mk (HM.out.kept (grown_of_below hb none) (by simp)); have nHX4_ := Aside0.mk (blk_below HX4.out hb); clear HB HXK HXX HXF HM HX4 hb; have HB := nHB_; have HXK := nHXK_; have HXX := nHXX_; have HXF := nHXF_; have HM := nHM_; have HX4 := nHX4_; clear nHB_ nHXK_ nHXX_ nHXF_ nHM_ nHX4_; have hck0 := (blk_cell HXK.out 0).trans rfl; have hcx0 := (blk_cell HXX.out 0).trans rfl; have hcx1 := (blk_cell HXX.out 1).trans rfl; have hc40 := (blk_cell HX4.out 0).trans rfl; have hc41 := (blk_cell HX4.out 1).trans rfl) | (go_at_call 79; refine (impl_bit.calls b bv _ HBV.out).mono ?_; rintro e w_ ⟨rfl, hd⟩; have hb := hd.below; clear hd; (try clear hck0); (try clear hcx0); (try clear hcx1); (try clear hc40); (try clear hc41); have nHB_ := Aside0.mk (below_step HB.out hb); have nHXK_ := Aside0.mk (blk_below HXK.out hb); have nHXX_ := Aside0.mk (blk_below HXX.out hb); have nHXF_ := Aside0.mk (blk_below HXF.out hb); have nHM_ := Aside0.mk (HM.out.kept (grown_of_below hb none) (by simp)); have nHX4_ := Aside0.mk (blk_below HX4.out hb); clear HB HXK HXX HXF HM HX4 hb; have HB := nHB_; have HXK := nHXK_; have HXX := nHXX_; have HXF := nHXF_; have HM := nHM_; have HX4 := nHX4_; clear nHB_ nHXK_ nHXX_ nHXF_ nHM_ nHX4_; have hck0 := (blk_cell HXK.out 0).trans rfl; have hcx0 := (blk_cell HXX.out 0).trans rfl; have hcx1 := (blk_cell HXX.out 1).trans rfl; have hc40 := (blk_cell HX4.out 0).trans rfl; have hc41 := (blk_cell HX4.out 1).trans rfl) | ((with_reducible refine gate_dst (N := 9) rfl ?_); refine box_event ?hg (N := 9) ?hd (cs := #[.int .i64 0]) (t := 2) ?hr ?_; (case hd => rfl); (case hg => rfl); (case hr => first | (go_simp; done) | (go_simp; rfl)); intro g9 hg_ w_ hbox hb; have HX9 := Aside0.mk hbox; have HG9 := Aside0.mk (show w.heap.size ≤ g9 ∧ gm < w.heap.size ∧ gK ≠ g9 ∧ gX ≠ g9 ∧ gF ≠ g9 ∧ g4 ≠ g9 by have := below_size HB.out; have := HGM.out; have := blk_lt HXK.out; have := blk_lt HXX.out; have := blk_lt HXF.out; have := blk_lt HX4.out; omega); (try clear hck0); (try clear hcx0); (try clear hcx1); (try clear hc40); (try clear hc41); clear hbox hg_; have nHB_ := Aside0.mk (below_step HB.out hb); have nHXK_ := Aside0.mk (blk_below HXK.out hb); have nHXX_ := Aside0.mk (blk_below HXX.out hb); have nHXF_ := Aside0.mk (blk_below HXF.out hb); have nHM_ := Aside0.mk (HM.out.kept (grown_of_below hb none) (by simp)); have nHX4_ := Aside0.mk (blk_below HX4.out hb); clear HB HXK HXX HXF HM HX4 hb; have HB := nHB_; have HXK := nHXK_; have HXX := nHXX_; have HXF := nHXF_; have HM := nHM_; have HX4 := nHX4_; clear nHB_ nHXK_ nHXX_ nHXF_ nHM_ nHX4_; have hck0 := (blk_cell HXK.out 0).trans rfl; have hcx0 := (blk_cell HXX.out 0).trans rfl; have hcx1 := (blk_cell HXX.out 1).trans rfl; have hc40 := (blk_cell HX4.out 0).trans rfl; have hc41 := (blk_cell HX4.out 1).trans rfl; have hc90 := (blk_cell HX9.out 0).trans rfl; have HGM9 := Aside0.mk (show gm ≠ g9 by have := HGM.out; have := HG9.out; omega)) | ((with_reducible refine gate_store (t := 2) (p := 9) rfl ?_); have hfz_ := blk_frozen HX9.out 0; refine store_event (t := 2) (p := 9) (v := .tmp 27) (w1 := (w_.setCell ⟨g9, 0, none⟩ (.int .i64 (2 - bv)))) ?hg ?ho ?hn ?hr ?_; (case ho => rfl); (case hg => rfl); (case hn => rfl); (case hr => first | (go_simp; done) | (go_simp; rfl)); intro w2_ hw_; clear hfz_; have nHB_ := Aside0.mk ((below_set HB.out HG9.out.1 : Below w.heap.size w (w_.setCell ⟨g9, 0, none⟩ (.int .i64 (2 - bv))))); have nHXK_ := Aside0.mk (blk_far (p := ⟨g9, 0, none⟩) HXK.out (show gK ≠ g9 by have := HG9.out; omega) (.int .i64 (2 - bv))); have nHXX_ := Aside0.mk (blk_far (p := ⟨g9, 0, none⟩) HXX.out (show gX ≠ g9 by have := HG9.out; omega) (.int .i64 (2 - bv))); have nHXF_ := Aside0.mk (blk_far (p := ⟨g9, 0, none⟩) HXF.out (show gF ≠ g9 by have := HG9.out; omega) (.int .i64 (2 - bv))); have nHM_ := Aside0.mk (HM.out.setCell (a := ⟨g9, 0, none⟩) (show gm ≠ g9 by have := HG9.out; omega) (.int .i64 (2 - bv))); have nHX4_ := Aside0.mk (blk_far (p := ⟨g9, 0, none⟩) HX4.out (show g4 ≠ g9 by have := HG9.out; omega) (.int .i64 (2 - bv))); have nHX9_ := Aside0.mk (blk_put HX9.out 0 (.int .i64 (2 - bv)) rfl); replace nHB_ := nHB_.out; rw [← hw_] at nHB_; replace nHXK_ := nHXK_.out; rw [← hw_] at nHXK_; replace nHXX_ := nHXX_.out; rw [← hw_] at nHXX_; replace nHXF_ := nHXF_.out; rw [← hw_] at nHXF_; replace nHM_ := nHM_.out; rw [← hw_] at nHM_; replace nHX4_ := nHX4_.out; rw [← hw_] at nHX4_; replace nHX9_ := nHX9_.out; rw [← hw_] at nHX9_; (try clear hck0); (try clear hcx0); (try clear hcx1); (try clear hc40); (try clear hc41); (try clear hc90); clear hw_ HB HXK HXX HXF HM HX4 HX9; have HB := Aside0.mk nHB_; have HXK := Aside0.mk nHXK_; have HXX := Aside0.mk nHXX_; have HXF := Aside0.mk nHXF_; have HM := Aside0.mk nHM_; have HX4 := Aside0.mk nHX4_; have HX9 := Aside0.mk nHX9_; clear nHB_ nHXK_ nHXX_ nHXF_ nHM_ nHX4_ nHX9_; have hck0 := (blk_cell HXK.out 0).trans rfl; have hcx0 := (blk_cell HXX.out 0).trans rfl; have hcx1 := (blk_cell HXX.out 1).trans rfl; have hc40 := (blk_cell HX4.out 0).trans rfl; have hc41 := (blk_cell HX4.out 1).trans rfl; have hc90 := (blk_cell HX9.out 0).trans rfl; have t_ := HX9.out; rw [← HOW.out] at t_; clear HX9 hc90; have HX9 := Aside0.mk t_; clear t_; have hc90 := (blk_cell HX9.out 0).trans rfl; clear hb0 hb1) | (go_at_call 80; refine (impl_turn_open.calls s b (freeV s) _ HFR.out).mono ?_; rintro e w_ ⟨v31, rfl, ho, hb⟩; obtain ⟨A31, c31, e31⟩ := Kd.R_slice ho; subst e31; have HO := Aside0.mk (Kd.R_lower ho (below_size HB.out)); clear ho; (try clear hck0); (try clear hcx0); (try clear hcx1); (try clear hc40); (try clear hc41); (try clear hc90); have nHB_ := Aside0.mk (below_step HB.out hb); have nHXK_ := Aside0.mk (blk_below HXK.out hb); have nHXX_ := Aside0.mk (blk_below HXX.out hb); have nHXF_ := Aside0.mk (blk_below HXF.out hb); have nHM_ := Aside0.mk (HM.out.kept (grown_of_below hb none) (by simp)); have nHX4_ := Aside0.mk (blk_below HX4.out hb); have nHX9_ := Aside0.mk (blk_below HX9.out hb); clear HB HXK HXX HXF HM HX4 HX9 hb; have HB := nHB_; have HXK := nHXK_; have HXX := nHXX_; have HXF := nHXF_; have HM := nHM_; have HX4 := nHX4_; have HX9 := nHX9_; clear nHB_ nHXK_ nHXX_ nHXF_ nHM_ nHX4_ nHX9_; have hck0 := (blk_cell HXK.out 0).trans rfl; have hcx0 := (blk_cell HXX.out 0).trans rfl; have hcx1 := (blk_cell HXX.out 1).trans rfl; have hc40 := (blk_cell HX4.out 0).trans rfl; have hc41 := (blk_cell HX4.out 1).trans rfl; have hc90 := (blk_cell HX9.out 0).trans rfl) | (go_at_call 37; have HE1 := Aside0.mk (WinEnv.step HE.out HB.out); refine (slices_ContainsFunc_int64_int64_37.callsI 81 _ (fun k => netWin l (afterV s k b) (!b) == ow) eg_wpred (WinI w0 gK gX gF gm p A c l d N w_) A31 c31 (freeV s) _ ⟨HE1.out.mono (Nat.le_add_right _ _), grown_refl_some _ _⟩ (winI_pred w0 gK gX gF gm p A c l d HIH.out HL10.out g4 g9 s b ow N _ (HD.out) HSS.out HX4.out HX9.out (by have := HGM.out; have := HG4.out; have := HG9.out; omega) HNB.out) (fun i W hI => winI_reads HO.out HGM.out hI) (by have := HFL.out; omega)).mono ?_; rintro e w3_ ⟨rfl, i, hi, hE3, hG3⟩; rw [HANY.out]; have HE3 := Aside0.mk hE3; have HG3_ := Aside0.mk hG3; have HII := Aside0.mk hi; have HG4B := Aside0.mk (blk_grownB HX4.out hG3 (by have := HGM.out; have := HG4.out; omega)); have HG9B := Aside0.mk (blk_grownB HX9.out hG3 (by have := HGM.out; have := HG9.out; omega)); have HB3 := Aside0.mk (grown_after_below HB.out hG3); obtain ⟨D2, hown2, hmem2⟩ := hE3.memo; have HM2 := Aside0.mk hown2; have HMM2 := Aside0.mk hmem2; (try clear hck0); (try clear hcx0); (try clear hcx1); (try clear hc40); (try clear hc41); (try clear hc90); clear hE3 hG3 hi hown2 hmem2 HM HX4 HX9 HXK HXX HXF; have hck0 := (blk_cell HE3.out.hk 0).trans rfl; have hc40 := (blk_cell HG4B.out 0).trans rfl; have hc41 := (blk_cell HG4B.out 1).trans rfl; have hc90 := (blk_cell HG9B.out 0).trans rfl) | (at_mapUpdate; refine wpList_mapUpdate_own _ rfl _ _ _ 84 rfl 72 2 turnKeyed Try.underlying84 _ gm (N + i * winCnt (d - 1)) _ rfl HM2.out (by have := HNB.out; have := HCP.out; have := cnt_last HII.out HD.out; omega) _ _ kl rfl rfl HKL.out _ [] (plainElem_int Try.underlying2 (wf_small (v := 3 - ow) (by omega) (by omega))) ?_; intro w4_ hown4 hg4_; have HW4 := Aside0.mk hown4; have HG4_ := Aside0.mk hg4_; clear hown4 hg4_))
        go_ret
        exact ⟨by rw [HNW.out]; rfl, find_env HE3.out HW4.out (HMM2.out.put turnKeyed (HM2.out.isMap) HKL.out (fun s' b' e => by injection e with e; injection e with e; simp only [List.cons.injEq, Value.string.injEq, Value.bool.injEq, and_true] at e; obtain ⟨rfl, rfl⟩ := e; rw [HNW.out]; rfl)) HG4_.out (by have := cnt_last HII.out HD.out; omega), HB3.out.trans HG4_.out⟩
theorem find_all (w0 : World) (gK gX gF gm : Nat) (p : Int) (A : Option Addr) (c : Nat) (l : List (List Int)) (hv : isNetV p l = true) (hr : Kd.C (Kd.slice 2 (Kd.int .i64)) w0 A l.length l) (hc : l.length ≤ c) : ∀ d, FindDoes w0 gK gX gF gm p A c l d
  | 0 => find_step w0 gK gX gF gm p A c l hv hr hc 0 (fun h => absurd rfl h)
  | d + 1 => find_step w0 gK gX gF gm p A c l hv hr hc (d + 1) (fun _ => find_all w0 gK gX gF gm p A c l hv hr hc d)
set_option maxHeartbeats 8000000 in
set_option maxRecDepth 100000 in
theorem impl_Net_winners.calls (p : Int) (A : Option Addr) (c : Nat) (l : List (List Int)) (w : World) :
    Calls Try.prog 58 #[.agg #[.int .i64 p, .slice A l.length c]] w fun e w' => ∃ gK gX gF gm : Nat, e = .returned (.func (.func 77) #[] #[.pointer (some ⟨gK, 0, none⟩), .pointer (some ⟨gX, 0, none⟩), .pointer (some ⟨gF, 0, none⟩)]) ∧ WinEnv w gK gX gF gm p A c l 0 w' := by
  have HB := Aside0.mk (Below.refl w.heap.size w)
  have hmm := @run_makeMap Try.prog
  have hu2 := Try.underlying33
  have hrs := fun (w : World) (a : Addr) (m : Mode) (g : Option Nat) => @run_store_map_ Try.prog w a m g
  have hrf := fun (w : World) (a : Addr) (m : Mode) (f : Fn) (t b : Array Value) => @run_store_func Try.prog w a m f t b
  go_enter Try.func58, Try.ntmps58
  go_wp2_with (first | ((with_reducible refine gate_dst (N := 1) rfl ?_); refine box_event ?hg (N := 1) ?hd (cs := #[.int .i64 p, .slice A l.length c]) (t := 33) ?hr ?_; (case hd => rfl); (case hg => rfl); (case hr => first | (go_simp; done) | (go_simp; rfl)); intro gX hg_ w_ hbox hb; have HXX := Aside0.mk hbox; have HGX := Aside0.mk (show w.heap.size ≤ gX by have := below_size HB.out; omega); clear hbox hg_; have nHB_ := Aside0.mk (below_step HB.out hb); clear HB hb; have HB := nHB_; clear nHB_; have hcx0 := (blk_cell HXX.out 0).trans rfl; have hcx1 := (blk_cell HXX.out 1).trans rfl) | ((with_reducible refine gate_dst (N := 5) rfl ?_); refine made_event ?hg (N := 5) ?hd 72 (plainElem Try.prog 2) ?hr ?_; (case hd => rfl); (case hg => rfl); (case hr => first | (go_simp; done) | (go_simp; rfl)); intro gm hgm wm hown hb; have HGM := Aside0.mk (show w.heap.size ≤ gm ∧ gX ≠ gm by have := below_size HB.out; have := blk_lt HXX.out; omega); have HM := Aside0.mk hown; (try clear hcx0); (try clear hcx1); clear hown hgm; have nHB_ := Aside0.mk (below_step HB.out hb); have nHXX_ := Aside0.mk (blk_below HXX.out hb); clear HB HXX hb; have HB := nHB_; have HXX := nHXX_; clear nHB_ nHXX_; have hcx0 := (blk_cell HXX.out 0).trans rfl; have hcx1 := (blk_cell HXX.out 1).trans rfl) | ((with_reducible refine gate_dst (N := 3) rfl ?_); refine box_event ?hg (N := 3) ?hd (cs := #[.map none]) (t := 84) ?hr ?_; (case hd => rfl); (case hg => rfl); (case hr => first | (go_simp; done) | (go_simp; rfl)); intro gK hg_ w_ hbox hb; have HXK := Aside0.mk hbox; have HGK := Aside0.mk (show w.heap.size ≤ gK ∧ gX ≠ gK by have := below_size HB.out; have := blk_lt HXX.out; omega); have HGKM := Aside0.mk (show gm ≠ gK by have := HM.out.lt; omega); (try clear hcx0); (try clear hcx1); clear hbox hg_; have nHB_ := Aside0.mk (below_step HB.out hb); have nHXX_ := Aside0.mk (blk_below HXX.out hb); have nHM_ := Aside0.mk (HM.out.kept (grown_of_below hb none) (by simp)); clear HB HXX HM hb; have HB := nHB_; have HXX := nHXX_; have HM := nHM_; clear nHB_ nHXX_ nHM_; have hcx0 := (blk_cell HXX.out 0).trans rfl; have hcx1 := (blk_cell HXX.out 1).trans rfl; have hck0 := (blk_cell HXK.out 0).trans rfl) | ((with_reducible refine gate_store (t := 84) (p := 3) rfl ?_); have hfz_ := blk_frozen HXK.out 0; refine store_event (t := 84) (p := 3) (v := .tmp 5) (w1 := (w_.setCell ⟨gK, 0, none⟩ (.map (some gm)))) ?hg ?ho ?hn ?hr ?_; (case ho => rfl); (case hg => rfl); (case hn => rfl); (case hr => first | (go_simp; done) | (go_simp; rfl)); intro w2_ hw_; clear hfz_; have nHB_ := Aside0.mk ((below_set HB.out HGK.out.1 : Below w.heap.size w (w_.setCell ⟨gK, 0, none⟩ (.map (some gm))))); have nHXX_ := Aside0.mk (blk_far (p := ⟨gK, 0, none⟩) HXX.out (show gX ≠ gK by have := HGK.out; omega) (.map (some gm))); have nHM_ := Aside0.mk (HM.out.setCell (a := ⟨gK, 0, none⟩) (HGKM.out) (.map (some gm))); have nHXK_ := Aside0.mk (blk_put HXK.out 0 (.map (some gm)) rfl); replace nHB_ := nHB_.out; rw [← hw_] at nHB_; replace nHXX_ := nHXX_.out; rw [← hw_] at nHXX_; replace nHM_ := nHM_.out; rw [← hw_] at nHM_; replace nHXK_ := nHXK_.out; rw [← hw_] at nHXK_; (try clear hcx0); (try clear hcx1); (try clear hck0); clear hw_ HB HXX HM HXK; have HB := Aside0.mk nHB_; have HXX := Aside0.mk nHXX_; have HM := Aside0.mk nHM_; have HXK := Aside0.mk nHXK_; clear nHB_ nHXX_ nHM_ nHXK_; have hcx0 := (blk_cell HXX.out 0).trans rfl; have hcx1 := (blk_cell HXX.out 1).trans rfl; have hck0 := (blk_cell HXK.out 0).trans rfl) | ((with_reducible refine gate_dst (N := 4) rfl ?_); refine box_event ?hg (N := 4) ?hd (cs := #[.nilFunc]) (t := 68) ?hr ?_; (case hd => rfl); (case hg => rfl); (case hr => first | (go_simp; done) | (go_simp; rfl)); intro gF hg_ w_ hbox hb; have HXF := Aside0.mk hbox; have HGF := Aside0.mk (show w.heap.size ≤ gF ∧ gX ≠ gF ∧ gK ≠ gF by have := below_size HB.out; have := blk_lt HXX.out; have := blk_lt HXK.out; omega); have HGFM := Aside0.mk (show gm ≠ gF by have := HM.out.lt; omega); (try clear hcx0); (try clear hcx1); (try clear hck0); clear hbox hg_; have nHB_ := Aside0.mk (below_step HB.out hb); have nHXX_ := Aside0.mk (blk_below HXX.out hb); have nHM_ := Aside0.mk (HM.out.kept (grown_of_below hb none) (by simp)); have nHXK_ := Aside0.mk (blk_below HXK.out hb); clear HB HXX HM HXK hb; have HB := nHB_; have HXX := nHXX_; have HM := nHM_; have HXK := nHXK_; clear nHB_ nHXX_ nHM_ nHXK_; have hcx0 := (blk_cell HXX.out 0).trans rfl; have hcx1 := (blk_cell HXX.out 1).trans rfl; have hck0 := (blk_cell HXK.out 0).trans rfl; have hcf0 := (blk_cell HXF.out 0).trans rfl) | ((with_reducible refine gate_store (t := 68) (p := 4) rfl ?_); have hfz_ := blk_frozen HXF.out 0; refine store_event (t := 68) (p := 4) (v := .tmp 6) (w1 := (w_.setCell ⟨gF, 0, none⟩ (.func (.func 77) #[] #[.pointer (some ⟨gK, 0, none⟩), .pointer (some ⟨gX, 0, none⟩), .pointer (some ⟨gF, 0, none⟩)]))) ?hg ?ho ?hn ?hr ?_; (case ho => rfl); (case hg => rfl); (case hn => rfl); (case hr => first | (go_simp; done) | (go_simp; rfl)); intro w2_ hw_; clear hfz_; have nHB_ := Aside0.mk ((below_set HB.out HGF.out.1 : Below w.heap.size w (w_.setCell ⟨gF, 0, none⟩ (.func (.func 77) #[] #[.pointer (some ⟨gK, 0, none⟩), .pointer (some ⟨gX, 0, none⟩), .pointer (some ⟨gF, 0, none⟩)])))); have nHXX_ := Aside0.mk (blk_far (p := ⟨gF, 0, none⟩) HXX.out (show gX ≠ gF by have := HGF.out; omega) (.func (.func 77) #[] #[.pointer (some ⟨gK, 0, none⟩), .pointer (some ⟨gX, 0, none⟩), .pointer (some ⟨gF, 0, none⟩)])); have nHM_ := Aside0.mk (HM.out.setCell (a := ⟨gF, 0, none⟩) (HGFM.out) (.func (.func 77) #[] #[.pointer (some ⟨gK, 0, none⟩), .pointer (some ⟨gX, 0, none⟩), .pointer (some ⟨gF, 0, none⟩)])); have nHXK_ := Aside0.mk (blk_far (p := ⟨gF, 0, none⟩) HXK.out (show gK ≠ gF by have := HGF.out; omega) (.func (.func 77) #[] #[.pointer (some ⟨gK, 0, none⟩), .pointer (some ⟨gX, 0, none⟩), .pointer (some ⟨gF, 0, none⟩)])); have nHXF_ := Aside0.mk (blk_put HXF.out 0 (.func (.func 77) #[] #[.pointer (some ⟨gK, 0, none⟩), .pointer (some ⟨gX, 0, none⟩), .pointer (some ⟨gF, 0, none⟩)]) rfl); replace nHB_ := nHB_.out; rw [← hw_] at nHB_; replace nHXX_ := nHXX_.out; rw [← hw_] at nHXX_; replace nHM_ := nHM_.out; rw [← hw_] at nHM_; replace nHXK_ := nHXK_.out; rw [← hw_] at nHXK_; replace nHXF_ := nHXF_.out; rw [← hw_] at nHXF_; (try clear hcx0); (try clear hcx1); (try clear hck0); (try clear hcf0); clear hw_ HB HXX HM HXK HXF; have HB := Aside0.mk nHB_; have HXX := Aside0.mk nHXX_; have HM := Aside0.mk nHM_; have HXK := Aside0.mk nHXK_; have HXF := Aside0.mk nHXF_; clear nHB_ nHXX_ nHM_ nHXK_ nHXF_; have hcx0 := (blk_cell HXX.out 0).trans rfl; have hcx1 := (blk_cell HXX.out 1).trans rfl; have hck0 := (blk_cell HXK.out 0).trans rfl; have hcf0 := (blk_cell HXF.out 0).trans rfl))
  go_ret
  exact ⟨gK, gX, gF, gm, rfl, HB.out, HXK.out, HXX.out, HXF.out, ⟨_, HM.out, Memo.empty⟩, ⟨HGKM.out, fun e => HGM.out.2 e.symm, HGFM.out⟩, HGM.out.1⟩
def Try.lays105_ren : Go.Shelf.Ren := ⟨fun | 105 => 59 | 212 => 83 | 99 => 84 | 165 => 85 | 166 => 86 | 170 => 87 | 169 => 88 | 263 => 96 | 264 => 97 | 206 => 98 | 240 => 99 | 241 => 100 | 276 => 111 | 277 => 112 | n => n, fun | 9 => 9 | 3 => 3 | 4 => 4 | 20 => 20 | 0 => 0 | 46 => 90 | 109 => 91 | 5 => 5 | 72 => 97 | 76 => 101 | 51 => 108 | 146 => 109 | 53 => 58 | 148 => 111 | 70 => 94 | 37 => 95 | 75 => 100 | 127 => 113 | 164 => 124 | 80 => 104 | n => n, fun | n => n⟩
theorem Try.lays105 : Go.Proofs.Lays.n105 Try.prog Try.lays105_ren := {
  mixed := by kernel_rfl
  f99 := Try.func84.trans (congrArg some (by kernel_rfl))
  f105 := Try.func59.trans (congrArg some (by kernel_rfl))
  f165 := Try.func85.trans (congrArg some (by kernel_rfl))
  f166 := Try.func86.trans (congrArg some (by kernel_rfl))
  f169 := Try.func88.trans (congrArg some (by kernel_rfl))
  f170 := Try.func87.trans (congrArg some (by kernel_rfl))
  f206 := Try.func98.trans (congrArg some (by kernel_rfl))
  f212 := Try.func83.trans (congrArg some (by kernel_rfl))
  f240 := Try.func99.trans (congrArg some (by kernel_rfl))
  f241 := Try.func100.trans (congrArg some (by kernel_rfl))
  f263 := Try.func96.trans (congrArg some (by kernel_rfl))
  f264 := Try.func97.trans (congrArg some (by kernel_rfl))
  f276 := Try.func111.trans (congrArg some (by kernel_rfl))
  f277 := Try.func112.trans (congrArg some (by kernel_rfl))
  t0 := Try.underlying0
  a0 := Try.isAgg0
  z0 := Try.sizeOf0
  v0 := Try.zeroValue0
  t3 := Try.underlying3
  a3 := Try.isAgg3
  z3 := Try.sizeOf3
  v3 := Try.zeroValue3
  t4 := Try.underlying4
  a4 := Try.isAgg4
  z4 := Try.sizeOf4
  v4 := Try.zeroValue4
  t5 := Try.underlying5
  a5 := Try.isAgg5
  z5 := Try.sizeOf5
  v5 := Try.zeroValue5
  t9 := Try.underlying9
  a9 := Try.isAgg9
  z9 := Try.sizeOf9
  v9 := Try.zeroValue9
  t20 := Try.underlying20
  a20 := Try.isAgg20
  z20 := Try.sizeOf20
  v20 := Try.zeroValue20
  t37 := Try.underlying95
  a37 := Try.isAgg95
  z37 := Try.sizeOf95
  v37 := Try.zeroValue95
  t46 := Try.underlying90
  a46 := Try.isAgg90
  z46 := Try.sizeOf90
  v46 := Try.zeroValue90
  t51 := Try.underlying108
  a51 := Try.isAgg108
  z51 := Try.sizeOf108
  v51 := Try.zeroValue108
  t53 := Try.underlying58
  a53 := Try.isAgg58
  z53 := Try.sizeOf58
  v53 := Try.zeroValue58
  t70 := Try.underlying94
  a70 := Try.isAgg94
  z70 := Try.sizeOf94
  v70 := Try.zeroValue94
  t72 := Try.underlying97
  a72 := Try.isAgg97
  z72 := Try.sizeOf97
  v72 := Try.zeroValue97
  t75 := Try.underlying100
  a75 := Try.isAgg100
  z75 := Try.sizeOf100
  v75 := Try.zeroValue100
  t76 := Try.underlying101
  a76 := Try.isAgg101
  z76 := Try.sizeOf101
  v76 := Try.zeroValue101
  t109 := Try.underlying91
  a109 := Try.isAgg91
  z109 := Try.sizeOf91
  v109 := Try.zeroValue91
  t127 := Try.underlying113
  a127 := Try.isAgg113
  z127 := Try.sizeOf113
  v127 := Try.zeroValue113
  t146 := Try.underlying109
  a146 := Try.isAgg109
  z146 := Try.sizeOf109
  v146 := Try.zeroValue109
  t148 := Try.underlying111
  a148 := Try.isAgg111
  z148 := Try.sizeOf111
  v148 := Try.zeroValue111
  t164 := Try.underlying124
  a164 := Try.isAgg124
  z164 := Try.sizeOf124
  v164 := Try.zeroValue124 }
theorem Try.Builder_Extra_105 : Builder.Extra Try.prog Try.lays105_ren := {
  sizeBuilder := by kernel_rfl
  liesBuilder := by kernel_rfl
  t5 := Try.underlying5
  a5 := Try.isAgg5
  z5 := Try.sizeOf5
  v5 := Try.zeroValue5
  infoByte := by kernel_rfl
  cellsByte := by kernel_rfl
  sizeByte := by kernel_rfl
  neB5 := by decide }
open Go.RowKit Go.Lib in
theorem Try.strings_Repeat (s : ByteArray) (c : Nat) (w : World) (hc : c ≤ 9223372036854775807) (hlen : s.size * c ≤ 140737488355328) :
    Calls Try.prog 59 #[.string s, .int .i64 c] w fun e w' => e = .returned (.string ⟨(Lib.repeatL s.data.toList c).toArray⟩) ∧ Below w.heap.size w w' := Any.strings_Repeat Try.lays105 Try.Builder_Extra_105 s c w hc hlen
/-! ### impl_OwnerOf: function 29 -/
-- EXTERNAL: by hand
-- impl_Net_winners impl_IsNet
def dotsV (n : Nat) : ByteArray := ⟨(Lib.repeatL [46] n).toArray⟩
theorem dotsV_size (n : Nat) : (dotsV n).size = n := by
  show (Lib.repeatL [46] n).toArray.size = n
  rw [List.size_toArray, Lib.repeatL_length]; simp
def ownerV (l : List (List Int)) : Int := if netWin l (dotsV l.length) false = 1 then 1 else if netWin l (dotsV l.length) true = 2 then 2 else 0
def impl_OwnerOf.f (a0_0 : Int) (l0_1 : List (List Int)) : Option (Int × Int) := if isNetV a0_0 l0_1 = true then some (ownerV l0_1, 0) else some (0, 1)
def impl_OwnerOf.T3 : Bool × List (List Nat × List Nat) := (true, [([], []), ([0], [0]), ([], []), ([2], [2]), ([3], [3]), ([4, 1], [4]), ([1, 5, 0, 1], [1]), ([5, 6, 0, 1, 2, 3, 4, 5, 6], [5])])
def impl_OwnerOf.B3 : List Nat := [0, 1, 0, 4, 12, 31, 63, 127]
theorem impl_OwnerOf.tab3 : rtab .any (opsOf Try.f29 3) = impl_OwnerOf.T3 := by kernel_rfl
theorem impl_OwnerOf.bits3 : waitsOk impl_OwnerOf.T3.2 impl_OwnerOf.B3 = true := by kernel_rfl
theorem winCnt_ten : winCnt 10 + winCnt 10 < maxLen := by simp [winCnt, maxLen]
set_option maxHeartbeats 8000000 in
set_option maxRecDepth 100000 in
theorem impl_OwnerOf.calls (a0_0 : Int) (A0_1 : Option Addr) (c0_1 : Nat) (l0_1 : List (List Int)) (r1 r2 : Int) (w : World) (hr0_1 : Kd.C (Kd.slice 2 (Kd.int .i64)) w A0_1 l0_1.length l0_1) (hc0_1 : l0_1.length ≤ c0_1) (h : impl_OwnerOf.f a0_0 l0_1 = some (r1, r2)) :
    Calls Try.prog 29 #[.agg #[.int .i64 a0_0, .slice A0_1 l0_1.length c0_1]] w fun e w' => e = .returned (.tuple #[.int .i64 r1, .int .i64 r2]) ∧ Below w.heap.size w w' := by
  have HB := Aside0.mk (Below.refl w.heap.size w)
  have HR := Aside0.mk hr0_1
  have HC0 := Aside0.mk hc0_1
  have hm := hr0_1.2.1
  have hu := Try.underlying33
  have hin := fun W hb => impl_IsNet.calls a0_0 A0_1 c0_1 l0_1 (isNetV a0_0 l0_1) W (Kd.C_below hr0_1 hb) hc0_1 rfl
  unfold impl_OwnerOf.f at h
  by_cases hv : isNetV a0_0 l0_1 = true
  case neg =>
    rw [if_neg hv] at h
    simp only [Option.some.injEq, Prod.mk.injEq] at h
    obtain ⟨rfl, rfl⟩ := h
    rw [Bool.eq_false_iff.2 hv] at hin
    have HIN := Aside0.mk hin
    clear hin hv hr0_1 hc0_1
    go_enter Try.func29, Try.ntmps29
    go_wp2_with (first | ((with_reducible refine gate_dst (N := 1) rfl ?_); refine box_event ?hg (N := 1) ?hd (cs := #[.int .i64 a0_0, .slice A0_1 l0_1.length c0_1]) (t := 33) ?hr ?_; (case hd => rfl); (case hg => rfl); (case hr => first | (go_simp; done) | (go_simp; rfl)); intro g1 hg_ w_ hbox hb; have HX1 := Aside0.mk hbox; have HG1 := Aside0.mk (show w.heap.size ≤ g1 by have := below_size HB.out; omega); clear hbox hg_; have nHB_ := Aside0.mk (below_step HB.out hb); clear HB hb; have HB := nHB_; clear nHB_; have hc10 := (blk_cell HX1.out 0).trans rfl; have hc11 := (blk_cell HX1.out 1).trans rfl) | (go_at_call 19; refine (HIN.out _ HB.out).mono ?_; rintro e w_ ⟨rfl, hb⟩; (try clear hc10); (try clear hc11); have nHB_ := Aside0.mk (below_step HB.out hb); have nHX1_ := Aside0.mk (blk_below HX1.out hb); clear HB HX1 hb; have HB := nHB_; have HX1 := nHX1_; clear nHB_ nHX1_; have hc10 := (blk_cell HX1.out 0).trans rfl; have hc11 := (blk_cell HX1.out 1).trans rfl))
    go_ret2
    exact ⟨rfl, HB.out⟩
  case pos =>
    rw [if_pos hv] at h
    simp only [Option.some.injEq, Prod.mk.injEq] at h
    obtain ⟨hr1, rfl⟩ := h
    rw [hv] at hin
    have HIN := Aside0.mk hin
    have hl := (netEdges hv).1.1
    have HFA := Aside0.mk (fun (w0 : World) (gK gX gF gm : Nat) (hr : Kd.C (Kd.slice 2 (Kd.int .i64)) w0 A0_1 l0_1.length l0_1) => find_all w0 gK gX gF gm a0_0 A0_1 c0_1 l0_1 hv hr hc0_1 10)
    have HREP := Aside0.mk (fun W => Try.strings_Repeat (⟨#[46]⟩ : ByteArray) l0_1.length W (by omega) (by show 1 * l0_1.length ≤ _; omega))
    have HSS := Aside0.mk (dotsV_size l0_1.length)
    have HFL := Aside0.mk (show (freeV (dotsV l0_1.length)).length ≤ 10 by have := chosenTo_le (fun k => bt (dotsV l0_1.length) k == 46) (dotsV l0_1.length).size; have e_ := dotsV_size l0_1.length; unfold freeV; omega)
    have HS0 := Aside0.mk (show (⟨(Lib.repeatL (⟨#[46]⟩ : ByteArray).data.toList l0_1.length).toArray⟩ : ByteArray) = dotsV l0_1.length from rfl)
    unfold ownerV at hr1
    generalize dotsV l0_1.length = s0 at hr1 HSS HFL HS0
    obtain ⟨n1, hn1⟩ : ∃ n1, netWin l0_1 s0 false = n1 := ⟨_, rfl⟩
    obtain ⟨n2, hn2⟩ : ∃ n2, netWin l0_1 s0 true = n2 := ⟨_, rfl⟩
    rw [hn1, hn2] at hr1
    have HN1 := Aside0.mk hn1
    have HN2 := Aside0.mk hn2
    have tok1 : True := trivial
    have tok2 : True := trivial
    clear hin hv hr0_1 hc0_1 hn1 hn2
    by_cases d1 : n1 = 1
    · rw [if_pos d1] at hr1
      have d1b : (n1 == 1) = true := beq_iff_eq.mpr d1
      subst hr1
      clear d1 hl
      go_enter Try.func29, Try.ntmps29
      go_wp2_with (first | ((with_reducible refine gate_dst (N := 1) rfl ?_); refine box_event ?hg (N := 1) ?hd (cs := #[.int .i64 a0_0, .slice A0_1 l0_1.length c0_1]) (t := 33) ?hr ?_; (case hd => rfl); (case hg => rfl); (case hr => first | (go_simp; done) | (go_simp; rfl)); intro g1 hg_ w_ hbox hb; have HX1 := Aside0.mk hbox; have HG1 := Aside0.mk (show w.heap.size ≤ g1 by have := below_size HB.out; omega); clear hbox hg_; have nHB_ := Aside0.mk (below_step HB.out hb); clear HB hb; have HB := nHB_; clear nHB_; have hc10 := (blk_cell HX1.out 0).trans rfl; have hc11 := (blk_cell HX1.out 1).trans rfl) | (go_at_call 19; refine (HIN.out _ HB.out).mono ?_; rintro e w_ ⟨rfl, hb⟩; (try clear hc10); (try clear hc11); have nHB_ := Aside0.mk (below_step HB.out hb); have nHX1_ := Aside0.mk (blk_below HX1.out hb); clear HB HX1 hb; have HB := nHB_; have HX1 := nHX1_; clear nHB_ nHX1_; have hc10 := (blk_cell HX1.out 0).trans rfl; have hc11 := (blk_cell HX1.out 1).trans rfl))
      have n1_ := Aside0.mk (blk_drew HX1.out)
      have nb_ := Aside0.mk (below_drew1 HB.out)
      clear HX1 HB hc10 hc11
      refine start_ (n := 8) (S := fun w' => w'.cell? ⟨g1, 0, none⟩ = some (.int .i64 a0_0) ∧ w'.cell? ⟨g1, 1, none⟩ = some (.slice A0_1 l0_1.length c0_1)) (ds := []) #[false, false, false, false, false, false, false, false] (by kernel_rfl) rfl rfl ⟨(blk_cell n1_.out 0).trans rfl, (blk_cell n1_.out 1).trans rfl⟩ (fun hHeld => ?_)
      refine with_tabW impl_OwnerOf.tab3 impl_OwnerOf.bits3 (fun HT_ HW_ => ?_)
      generalize hq_ : w_.drew = wd_ at n1_ nb_ hHeld ⊢
      clear hq_
      refine take_ (i := 0) (N := some 9) (v := ?_) (a' := ?_) #[true, false, false, false, false, false, false, false] rfl rfl (take_ofW HT_.out HW_.out (by kernel_rfl)) (fun _ _ _ h => h) (Or.inl ⟨by rfl, ?_⟩) hHeld ?_ ?_
      rotate_left
      · rintro w' ⟨s0_, s1_⟩
        go_simp
        with_reducible rfl
      rotate_left
      · simp only [Act.put, List.setIfInBounds_toArray, List.set_cons_zero, List.set_cons_succ, i64_w, i32_w]
        rfl
      refine pure_ (i := 2) (N := some 11) (v := ?_) (a' := ?_) #[true, false, true, false, false, false, false, false] rfl rfl (any_of HT_.out (by kernel_rfl)) (fun _ _ _ h => h) (Or.inl ⟨by rfl, ?_⟩) ?_ ?_
      rotate_left
      · intro w'
        go_simp
        with_reducible rfl
      rotate_left
      · simp only [Act.put, List.setIfInBounds_toArray, List.set_cons_zero, List.set_cons_succ, i64_w, i32_w]
        rfl
      refine take_ (i := 3) (N := some 12) (v := ?_) (a' := ?_) #[true, false, true, true, false, false, false, false] rfl rfl (take_ofW HT_.out HW_.out (by kernel_rfl)) (fun _ _ _ h => h) (Or.inl ⟨by rfl, ?_⟩) hHeld ?_ ?_
      rotate_left
      · rintro w' ⟨s0_, s1_⟩
        go_simp
        with_reducible rfl
      rotate_left
      · simp only [Act.put, List.setIfInBounds_toArray, List.set_cons_zero, List.set_cons_succ, i64_w, i32_w]
        rfl
      refine pure_ (i := 4) (N := some 13) (v := ?_) (a' := ?_) #[true, false, true, true, true, false, false, false] rfl rfl (any_of HT_.out (by kernel_rfl)) (fun _ _ _ h => h) (Or.inl ⟨by rfl, ?_⟩) ?_ ?_
      rotate_left
      · intro w'
        go_simp
        with_reducible rfl
      rotate_left
      · simp only [Act.put, List.setIfInBounds_toArray, List.set_cons_zero, List.set_cons_succ, i64_w, i32_w]
        rfl
      refine one_ (i := 1) (N := some 10) #[true, true, true, true, true, false, false, false] rfl rfl (one_of HT_.out (by kernel_rfl)) (by decide) (fun K hK => ?_)
      refine goes_ Try.func58 (by kernel_rfl) rfl #[.agg #[.int .i64 a0_0, .slice A0_1 l0_1.length c0_1]] (by rfl) rfl rfl (by (try simp only [List.map_toArray, List.map_cons, List.map_nil]); first | done | rfl) ?_
      refine (impl_Net_winners.calls a0_0 A0_1 c0_1 l0_1 wd_).mono ?_
      rintro e wa_ ⟨gK, gX, gF, gm, rfl, hE⟩
      refine ⟨_, rfl, ?_⟩
      have HF1 := Aside0.mk (HFA.out wd_ gK gX gF gm (Kd.C_below HR.out nb_.out))
      have HE1 := Aside0.mk hE
      have HX2 := Aside0.mk (blk_below n1_.out hE.below)
      have HB2 := Aside0.mk (below_step nb_.out hE.below)
      have HB0_ := nb_
      clear hE n1_ nb_
      refine hK.out _ _ ⟨(blk_cell HX2.out 0).trans rfl, (blk_cell HX2.out 1).trans rfl⟩ (fun hHeld => ?_)
      clear hK K
      refine norm_ (a' := ?_) ?_ ?_
      rotate_left
      · show Act.put _ (some 10) _ = _
        simp only [Act.put, List.setIfInBounds_toArray, List.set_cons_zero, List.set_cons_succ, i64_w, i32_w]
        rfl
      refine one_ (i := 5) (N := some 14) #[true, true, true, true, true, true, false, false] rfl rfl (one_of HT_.out (by kernel_rfl)) (by decide) (fun K hK => ?_)
      refine goes_ Try.func59 (by kernel_rfl) rfl #[.string (⟨#[46]⟩ : ByteArray), .int .i64 l0_1.length] (by rfl) rfl rfl (by (try simp only [List.map_toArray, List.map_cons, List.map_nil]); first | done | rfl) ?_
      refine (HREP.out _).mono ?_
      rintro e wb_ ⟨rfl, hb⟩
      rw [HS0.out]
      refine ⟨_, rfl, ?_⟩
      have HE := Aside0.mk (HE1.out.step hb)
      have HX3 := Aside0.mk (blk_below HX2.out hb)
      have HB := Aside0.mk (below_step HB2.out hb)
      clear hb HE1 HX2 HB2
      refine hK.out _ _ ⟨(blk_cell HX3.out 0).trans rfl, (blk_cell HX3.out 1).trans rfl⟩ (fun hHeld => ?_)
      clear hK K
      refine norm_ (a' := ?_) ?_ ?_
      rotate_left
      · show Act.put _ (some 14) _ = _
        simp only [Act.put, List.setIfInBounds_toArray, List.set_cons_zero, List.set_cons_succ, i64_w, i32_w]
        rfl
      refine pure_ (i := 6) (N := some 4) (v := ?_) (a' := ?_) #[true, true, true, true, true, true, true, false] rfl rfl (any_of HT_.out (by kernel_rfl)) (fun _ _ _ h => h) (Or.inl ⟨by rfl, ?_⟩) ?_ ?_
      rotate_left
      · intro w'
        go_simp
        with_reducible rfl
      rotate_left
      · simp only [Act.put, List.setIfInBounds_toArray, List.set_cons_zero, List.set_cons_succ, i64_w, i32_w]
        rfl
      refine pure_ (i := 7) (N := some 5) (v := ?_) (a' := ?_) #[true, true, true, true, true, true, true, true] rfl rfl (any_of HT_.out (by kernel_rfl)) (fun _ _ _ h => h) (Or.inl ⟨by rfl, ?_⟩) ?_ ?_
      rotate_left
      · intro w'
        go_simp
        with_reducible rfl
      rotate_left
      · simp only [Act.put, List.setIfInBounds_toArray, List.set_cons_zero, List.set_cons_succ, i64_w, i32_w]
        rfl
      refine done_ (done_of HT_.out (by kernel_rfl)) ?_
      go_wp2_with (first | (go_at_call 77; have _t := tok1; refine (HF1.out s0 false 0 _ HFL.out HSS.out HE.out (by have := winCnt_ten; omega)).mono ?_; rintro e wc_ ⟨rfl, hE2, hG2⟩; rw [HN1.out]; have HE2 := Aside0.mk hE2; clear tok1 hE2 hG2))
      go_ret2
      exact ⟨rfl, below_step HB0_.out HE2.out.below⟩
    · rw [if_neg d1] at hr1
      have d1b : (n1 == 1) = false := beq_eq_false_iff_ne.mpr d1
      by_cases d2 : n2 = 2
      · rw [if_pos d2] at hr1
        have d2b : (n2 == 2) = true := beq_iff_eq.mpr d2
        subst hr1
        clear d1 d2 hl
        go_enter Try.func29, Try.ntmps29
        go_wp2_with (first | ((with_reducible refine gate_dst (N := 1) rfl ?_); refine box_event ?hg (N := 1) ?hd (cs := #[.int .i64 a0_0, .slice A0_1 l0_1.length c0_1]) (t := 33) ?hr ?_; (case hd => rfl); (case hg => rfl); (case hr => first | (go_simp; done) | (go_simp; rfl)); intro g1 hg_ w_ hbox hb; have HX1 := Aside0.mk hbox; have HG1 := Aside0.mk (show w.heap.size ≤ g1 by have := below_size HB.out; omega); clear hbox hg_; have nHB_ := Aside0.mk (below_step HB.out hb); clear HB hb; have HB := nHB_; clear nHB_; have hc10 := (blk_cell HX1.out 0).trans rfl; have hc11 := (blk_cell HX1.out 1).trans rfl) | (go_at_call 19; refine (HIN.out _ HB.out).mono ?_; rintro e w_ ⟨rfl, hb⟩; (try clear hc10); (try clear hc11); have nHB_ := Aside0.mk (below_step HB.out hb); have nHX1_ := Aside0.mk (blk_below HX1.out hb); clear HB HX1 hb; have HB := nHB_; have HX1 := nHX1_; clear nHB_ nHX1_; have hc10 := (blk_cell HX1.out 0).trans rfl; have hc11 := (blk_cell HX1.out 1).trans rfl))
        have n1_ := Aside0.mk (blk_drew HX1.out)
        have nb_ := Aside0.mk (below_drew1 HB.out)
        clear HX1 HB hc10 hc11
        refine start_ (n := 8) (S := fun w' => w'.cell? ⟨g1, 0, none⟩ = some (.int .i64 a0_0) ∧ w'.cell? ⟨g1, 1, none⟩ = some (.slice A0_1 l0_1.length c0_1)) (ds := []) #[false, false, false, false, false, false, false, false] (by kernel_rfl) rfl rfl ⟨(blk_cell n1_.out 0).trans rfl, (blk_cell n1_.out 1).trans rfl⟩ (fun hHeld => ?_)
        refine with_tabW impl_OwnerOf.tab3 impl_OwnerOf.bits3 (fun HT_ HW_ => ?_)
        generalize hq_ : w_.drew = wd_ at n1_ nb_ hHeld ⊢
        clear hq_
        refine take_ (i := 0) (N := some 9) (v := ?_) (a' := ?_) #[true, false, false, false, false, false, false, false] rfl rfl (take_ofW HT_.out HW_.out (by kernel_rfl)) (fun _ _ _ h => h) (Or.inl ⟨by rfl, ?_⟩) hHeld ?_ ?_
        rotate_left
        · rintro w' ⟨s0_, s1_⟩
          go_simp
          with_reducible rfl
        rotate_left
        · simp only [Act.put, List.setIfInBounds_toArray, List.set_cons_zero, List.set_cons_succ, i64_w, i32_w]
          rfl
        refine pure_ (i := 2) (N := some 11) (v := ?_) (a' := ?_) #[true, false, true, false, false, false, false, false] rfl rfl (any_of HT_.out (by kernel_rfl)) (fun _ _ _ h => h) (Or.inl ⟨by rfl, ?_⟩) ?_ ?_
        rotate_left
        · intro w'
          go_simp
          with_reducible rfl
        rotate_left
        · simp only [Act.put, List.setIfInBounds_toArray, List.set_cons_zero, List.set_cons_succ, i64_w, i32_w]
          rfl
        refine take_ (i := 3) (N := some 12) (v := ?_) (a' := ?_) #[true, false, true, true, false, false, false, false] rfl rfl (take_ofW HT_.out HW_.out (by kernel_rfl)) (fun _ _ _ h => h) (Or.inl ⟨by rfl, ?_⟩) hHeld ?_ ?_
        rotate_left
        · rintro w' ⟨s0_, s1_⟩
          go_simp
          with_reducible rfl
        rotate_left
        · simp only [Act.put, List.setIfInBounds_toArray, List.set_cons_zero, List.set_cons_succ, i64_w, i32_w]
          rfl
        refine pure_ (i := 4) (N := some 13) (v := ?_) (a' := ?_) #[true, false, true, true, true, false, false, false] rfl rfl (any_of HT_.out (by kernel_rfl)) (fun _ _ _ h => h) (Or.inl ⟨by rfl, ?_⟩) ?_ ?_
        rotate_left
        · intro w'
          go_simp
          with_reducible rfl
        rotate_left
        · simp only [Act.put, List.setIfInBounds_toArray, List.set_cons_zero, List.set_cons_succ, i64_w, i32_w]
          rfl
        refine one_ (i := 1) (N := some 10) #[true, true, true, true, true, false, false, false] rfl rfl (one_of HT_.out (by kernel_rfl)) (by decide) (fun K hK => ?_)
        refine goes_ Try.func58 (by kernel_rfl) rfl #[.agg #[.int .i64 a0_0, .slice A0_1 l0_1.length c0_1]] (by rfl) rfl rfl (by (try simp only [List.map_toArray, List.map_cons, List.map_nil]); first | done | rfl) ?_
        refine (impl_Net_winners.calls a0_0 A0_1 c0_1 l0_1 wd_).mono ?_
        rintro e wa_ ⟨gK, gX, gF, gm, rfl, hE⟩
        refine ⟨_, rfl, ?_⟩
        have HF1 := Aside0.mk (HFA.out wd_ gK gX gF gm (Kd.C_below HR.out nb_.out))
        have HE1 := Aside0.mk hE
        have HX2 := Aside0.mk (blk_below n1_.out hE.below)
        have HB2 := Aside0.mk (below_step nb_.out hE.below)
        have HB0_ := nb_
        clear hE n1_ nb_
        refine hK.out _ _ ⟨(blk_cell HX2.out 0).trans rfl, (blk_cell HX2.out 1).trans rfl⟩ (fun hHeld => ?_)
        clear hK K
        refine norm_ (a' := ?_) ?_ ?_
        rotate_left
        · show Act.put _ (some 10) _ = _
          simp only [Act.put, List.setIfInBounds_toArray, List.set_cons_zero, List.set_cons_succ, i64_w, i32_w]
          rfl
        refine one_ (i := 5) (N := some 14) #[true, true, true, true, true, true, false, false] rfl rfl (one_of HT_.out (by kernel_rfl)) (by decide) (fun K hK => ?_)
        refine goes_ Try.func59 (by kernel_rfl) rfl #[.string (⟨#[46]⟩ : ByteArray), .int .i64 l0_1.length] (by rfl) rfl rfl (by (try simp only [List.map_toArray, List.map_cons, List.map_nil]); first | done | rfl) ?_
        refine (HREP.out _).mono ?_
        rintro e wb_ ⟨rfl, hb⟩
        rw [HS0.out]
        refine ⟨_, rfl, ?_⟩
        have HE := Aside0.mk (HE1.out.step hb)
        have HX3 := Aside0.mk (blk_below HX2.out hb)
        have HB := Aside0.mk (below_step HB2.out hb)
        clear hb HE1 HX2 HB2
        refine hK.out _ _ ⟨(blk_cell HX3.out 0).trans rfl, (blk_cell HX3.out 1).trans rfl⟩ (fun hHeld => ?_)
        clear hK K
        refine norm_ (a' := ?_) ?_ ?_
        rotate_left
        · show Act.put _ (some 14) _ = _
          simp only [Act.put, List.setIfInBounds_toArray, List.set_cons_zero, List.set_cons_succ, i64_w, i32_w]
          rfl
        refine pure_ (i := 6) (N := some 4) (v := ?_) (a' := ?_) #[true, true, true, true, true, true, true, false] rfl rfl (any_of HT_.out (by kernel_rfl)) (fun _ _ _ h => h) (Or.inl ⟨by rfl, ?_⟩) ?_ ?_
        rotate_left
        · intro w'
          go_simp
          with_reducible rfl
        rotate_left
        · simp only [Act.put, List.setIfInBounds_toArray, List.set_cons_zero, List.set_cons_succ, i64_w, i32_w]
          rfl
        refine pure_ (i := 7) (N := some 5) (v := ?_) (a' := ?_) #[true, true, true, true, true, true, true, true] rfl rfl (any_of HT_.out (by kernel_rfl)) (fun _ _ _ h => h) (Or.inl ⟨by rfl, ?_⟩) ?_ ?_
        rotate_left
        · intro w'
          go_simp
          with_reducible rfl
        rotate_left
        · simp only [Act.put, List.setIfInBounds_toArray, List.set_cons_zero, List.set_cons_succ, i64_w, i32_w]
          rfl
        refine done_ (done_of HT_.out (by kernel_rfl)) ?_
        go_wp2_with (first | (go_at_call 77; have _t := tok1; refine (HF1.out s0 false 0 _ HFL.out HSS.out HE.out (by have := winCnt_ten; omega)).mono ?_; rintro e wc_ ⟨rfl, hE2, hG2⟩; rw [HN1.out]; have HE2 := Aside0.mk hE2; clear tok1 hE2 hG2) | (go_at_call 77; have _t := tok2; refine (HF1.out s0 true _ _ HFL.out HSS.out HE2.out (by have := winCnt_ten; omega)).mono ?_; rintro e wd2_ ⟨rfl, hE3, hG3⟩; rw [HN2.out]; have HE3 := Aside0.mk hE3; clear tok2 hE3 hG3))
        go_ret2
        exact ⟨rfl, below_step HB0_.out HE3.out.below⟩
      · rw [if_neg d2] at hr1
        have d2b : (n2 == 2) = false := beq_eq_false_iff_ne.mpr d2
        subst hr1
        clear d1 d2 hl
        go_enter Try.func29, Try.ntmps29
        go_wp2_with (first | ((with_reducible refine gate_dst (N := 1) rfl ?_); refine box_event ?hg (N := 1) ?hd (cs := #[.int .i64 a0_0, .slice A0_1 l0_1.length c0_1]) (t := 33) ?hr ?_; (case hd => rfl); (case hg => rfl); (case hr => first | (go_simp; done) | (go_simp; rfl)); intro g1 hg_ w_ hbox hb; have HX1 := Aside0.mk hbox; have HG1 := Aside0.mk (show w.heap.size ≤ g1 by have := below_size HB.out; omega); clear hbox hg_; have nHB_ := Aside0.mk (below_step HB.out hb); clear HB hb; have HB := nHB_; clear nHB_; have hc10 := (blk_cell HX1.out 0).trans rfl; have hc11 := (blk_cell HX1.out 1).trans rfl) | (go_at_call 19; refine (HIN.out _ HB.out).mono ?_; rintro e w_ ⟨rfl, hb⟩; (try clear hc10); (try clear hc11); have nHB_ := Aside0.mk (below_step HB.out hb); have nHX1_ := Aside0.mk (blk_below HX1.out hb); clear HB HX1 hb; have HB := nHB_; have HX1 := nHX1_; clear nHB_ nHX1_; have hc10 := (blk_cell HX1.out 0).trans rfl; have hc11 := (blk_cell HX1.out 1).trans rfl))
        have n1_ := Aside0.mk (blk_drew HX1.out)
        have nb_ := Aside0.mk (below_drew1 HB.out)
        clear HX1 HB hc10 hc11
        refine start_ (n := 8) (S := fun w' => w'.cell? ⟨g1, 0, none⟩ = some (.int .i64 a0_0) ∧ w'.cell? ⟨g1, 1, none⟩ = some (.slice A0_1 l0_1.length c0_1)) (ds := []) #[false, false, false, false, false, false, false, false] (by kernel_rfl) rfl rfl ⟨(blk_cell n1_.out 0).trans rfl, (blk_cell n1_.out 1).trans rfl⟩ (fun hHeld => ?_)
        refine with_tabW impl_OwnerOf.tab3 impl_OwnerOf.bits3 (fun HT_ HW_ => ?_)
        generalize hq_ : w_.drew = wd_ at n1_ nb_ hHeld ⊢
        clear hq_
        refine take_ (i := 0) (N := some 9) (v := ?_) (a' := ?_) #[true, false, false, false, false, false, false, false] rfl rfl (take_ofW HT_.out HW_.out (by kernel_rfl)) (fun _ _ _ h => h) (Or.inl ⟨by rfl, ?_⟩) hHeld ?_ ?_
        rotate_left
        · rintro w' ⟨s0_, s1_⟩
          go_simp
          with_reducible rfl
        rotate_left
        · simp only [Act.put, List.setIfInBounds_toArray, List.set_cons_zero, List.set_cons_succ, i64_w, i32_w]
          rfl
        refine pure_ (i := 2) (N := some 11) (v := ?_) (a' := ?_) #[true, false, true, false, false, false, false, false] rfl rfl (any_of HT_.out (by kernel_rfl)) (fun _ _ _ h => h) (Or.inl ⟨by rfl, ?_⟩) ?_ ?_
        rotate_left
        · intro w'
          go_simp
          with_reducible rfl
        rotate_left
        · simp only [Act.put, List.setIfInBounds_toArray, List.set_cons_zero, List.set_cons_succ, i64_w, i32_w]
          rfl
        refine take_ (i := 3) (N := some 12) (v := ?_) (a' := ?_) #[true, false, true, true, false, false, false, false] rfl rfl (take_ofW HT_.out HW_.out (by kernel_rfl)) (fun _ _ _ h => h) (Or.inl ⟨by rfl, ?_⟩) hHeld ?_ ?_
        rotate_left
        · rintro w' ⟨s0_, s1_⟩
          go_simp
          with_reducible rfl
        rotate_left
        · simp only [Act.put, List.setIfInBounds_toArray, List.set_cons_zero, List.set_cons_succ, i64_w, i32_w]
          rfl
        refine pure_ (i := 4) (N := some 13) (v := ?_) (a' := ?_) #[true, false, true, true, true, false, false, false] rfl rfl (any_of HT_.out (by kernel_rfl)) (fun _ _ _ h => h) (Or.inl ⟨by rfl, ?_⟩) ?_ ?_
        rotate_left
        · intro w'
          go_simp
          with_reducible rfl
        rotate_left
        · simp only [Act.put, List.setIfInBounds_toArray, List.set_cons_zero, List.set_cons_succ, i64_w, i32_w]
          rfl
        refine one_ (i := 1) (N := some 10) #[true, true, true, true, true, false, false, false] rfl rfl (one_of HT_.out (by kernel_rfl)) (by decide) (fun K hK => ?_)
        refine goes_ Try.func58 (by kernel_rfl) rfl #[.agg #[.int .i64 a0_0, .slice A0_1 l0_1.length c0_1]] (by rfl) rfl rfl (by (try simp only [List.map_toArray, List.map_cons, List.map_nil]); first | done | rfl) ?_
        refine (impl_Net_winners.calls a0_0 A0_1 c0_1 l0_1 wd_).mono ?_
        rintro e wa_ ⟨gK, gX, gF, gm, rfl, hE⟩
        refine ⟨_, rfl, ?_⟩
        have HF1 := Aside0.mk (HFA.out wd_ gK gX gF gm (Kd.C_below HR.out nb_.out))
        have HE1 := Aside0.mk hE
        have HX2 := Aside0.mk (blk_below n1_.out hE.below)
        have HB2 := Aside0.mk (below_step nb_.out hE.below)
        have HB0_ := nb_
        clear hE n1_ nb_
        refine hK.out _ _ ⟨(blk_cell HX2.out 0).trans rfl, (blk_cell HX2.out 1).trans rfl⟩ (fun hHeld => ?_)
        clear hK K
        refine norm_ (a' := ?_) ?_ ?_
        rotate_left
        · show Act.put _ (some 10) _ = _
          simp only [Act.put, List.setIfInBounds_toArray, List.set_cons_zero, List.set_cons_succ, i64_w, i32_w]
          rfl
        refine one_ (i := 5) (N := some 14) #[true, true, true, true, true, true, false, false] rfl rfl (one_of HT_.out (by kernel_rfl)) (by decide) (fun K hK => ?_)
        refine goes_ Try.func59 (by kernel_rfl) rfl #[.string (⟨#[46]⟩ : ByteArray), .int .i64 l0_1.length] (by rfl) rfl rfl (by (try simp only [List.map_toArray, List.map_cons, List.map_nil]); first | done | rfl) ?_
        refine (HREP.out _).mono ?_
        rintro e wb_ ⟨rfl, hb⟩
        rw [HS0.out]
        refine ⟨_, rfl, ?_⟩
        have HE := Aside0.mk (HE1.out.step hb)
        have HX3 := Aside0.mk (blk_below HX2.out hb)
        have HB := Aside0.mk (below_step HB2.out hb)
        clear hb HE1 HX2 HB2
        refine hK.out _ _ ⟨(blk_cell HX3.out 0).trans rfl, (blk_cell HX3.out 1).trans rfl⟩ (fun hHeld => ?_)
        clear hK K
        refine norm_ (a' := ?_) ?_ ?_
        rotate_left
        · show Act.put _ (some 14) _ = _
          simp only [Act.put, List.setIfInBounds_toArray, List.set_cons_zero, List.set_cons_succ, i64_w, i32_w]
          rfl
        refine pure_ (i := 6) (N := some 4) (v := ?_) (a' := ?_) #[true, true, true, true, true, true, true, false] rfl rfl (any_of HT_.out (by kernel_rfl)) (fun _ _ _ h => h) (Or.inl ⟨by rfl, ?_⟩) ?_ ?_
        rotate_left
        · intro w'
          go_simp
          with_reducible rfl
        rotate_left
        · simp only [Act.put, List.setIfInBounds_toArray, List.set_cons_zero, List.set_cons_succ, i64_w, i32_w]
          rfl
        refine pure_ (i := 7) (N := some 5) (v := ?_) (a' := ?_) #[true, true, true, true, true, true, true, true] rfl rfl (any_of HT_.out (by kernel_rfl)) (fun _ _ _ h => h) (Or.inl ⟨by rfl, ?_⟩) ?_ ?_
        rotate_left
        · intro w'
          go_simp
          with_reducible rfl
        rotate_left
        · simp only [Act.put, List.setIfInBounds_toArray, List.set_cons_zero, List.set_cons_succ, i64_w, i32_w]
          rfl
        refine done_ (done_of HT_.out (by kernel_rfl)) ?_
        go_wp2_with (first | (go_at_call 77; have _t := tok1; refine (HF1.out s0 false 0 _ HFL.out HSS.out HE.out (by have := winCnt_ten; omega)).mono ?_; rintro e wc_ ⟨rfl, hE2, hG2⟩; rw [HN1.out]; have HE2 := Aside0.mk hE2; clear tok1 hE2 hG2) | (go_at_call 77; have _t := tok2; refine (HF1.out s0 true _ _ HFL.out HSS.out HE2.out (by have := winCnt_ten; omega)).mono ?_; rintro e wd2_ ⟨rfl, hE3, hG3⟩; rw [HN2.out]; have HE3 := Aside0.mk hE3; clear tok2 hE3 hG3))
        go_ret2
        exact ⟨rfl, below_step HB0_.out HE3.out.below⟩
-- Rows of rows of whole numbers that are handed to what writes them.
/-- The blocks that a row of rows (elements of type e) may lead to. -/
def ownS {α : Type} (d : Kd α) (e : Nat) (w : World) (ok : Nat → Prop) (k : Nat) : Prop := ok k ∧ k < w.heap.size ∧ ∃ q, q ∈ e :: d.E ∧ ∃ cells, w.heap[k]? = some (.cells cells q (0, 0))
theorem S_ownS {α : Type} {d : Kd α} {e base : Nat} {w : World} {ok : Nat → Prop} {v : Value} {xs : List α} (h : Kd.S d e w base ok v xs) : Kd.S d e w base (ownS d e w ok) v xs := Kd.S_mono (Kd.S_bound h) (fun _ hk => ⟨hk.1, hk.2.2.1, hk.2.2.2⟩)
theorem ownS_not {α : Type} {d : Kd α} {e k t : Nat} {w : World} {ok : Nat → Prop} {cs : Array Value} {fr : Nat × Nat} (h : ownS d e w ok k) (hb : w.heap[k]? = some (.cells cs t fr)) (ht : ∀ q, q ∈ e :: d.E → q ≠ t) : False := by
  obtain ⟨_, _, q, hq, cells, hc⟩ := h
  rw [hb] at hc
  injection hc with hc
  injection hc with _ hc
  exact ht q hq hc.symm
theorem ownS_typed {α : Type} {d : Kd α} {e k t : Nat} {w : World} {ok : Nat → Prop} {v : Value} (h : ownS d e w ok k) (hty : ∀ j, v.ownBlock = some j → ∃ cells, w.heap[j]? = some (.cells cells t (0, 0))) (ht : ∀ q, q ∈ e :: d.E → q ≠ t) : some k ≠ v.ownBlock := by
  intro e_
  obtain ⟨cells, hc⟩ := hty k e_.symm
  exact ownS_not h hc ht
theorem S_ltN {α : Type} {d : Kd α} {e base n : Nat} {w : World} {ok : Nat → Prop} {v : Value} {xs : List α} (h : Kd.S d e w base ok v xs) (hn : n = w.heap.size) : Kd.S d e w base (fun k => ok k ∧ k < n) v xs := Kd.S_mono (Kd.S_bound h) (fun _ hk => ⟨hk.1, by rw [hn]; exact hk.2.2.1⟩)
theorem S_geN {α : Type} {d : Kd α} {e n base : Nat} {w : World} {ok : Nat → Prop} {v : Value} {xs : List α} (h : Kd.S d e w base ok v xs) (hn : n = base) : Kd.S d e w base (fun k => ok k ∧ n ≤ k) v xs := Kd.S_mono (Kd.S_bound h) (fun _ hk => ⟨hk.1, by rw [hn]; exact hk.2.1⟩)
/-- Row i of a row of rows, lent to what writes it. -/
theorem S_lend_row {T e base g n cap : Nat} {W : World} {ok : Nat → Prop} {xs : List (List Int)} {i : Int} (h : Kd.S (Kd.slice T (Kd.int .i64)) e W base ok (.slice (some ⟨g, 0, none⟩) n cap) xs) (h0 : 0 ≤ i) (h1 : i < n) :
    ∃ (oki : Nat → Prop) (u : Value), Kd.R (Kd.int .i64) T W base oki u (xs.getD i.toNat []) ∧ W.cell? ⟨g, i.toNat, none⟩ = some u ∧ W.frozen? ⟨g, i.toNat, none⟩ = false ∧ (∀ k, oki k → ok k) ∧
      ∀ {W1 : World} {ok1 : Nat → Prop} {x' : List Int}, Kept W W1 oki → Kd.R (Kd.int .i64) T W1 base ok1 u x' → Kd.S (Kd.slice T (Kd.int .i64)) e W1 base ok (.slice (some ⟨g, 0, none⟩) n cap) (xs.set i.toNat x') := by
  obtain ⟨oki, c, hcl, hM, hcc, hfr, hoki, hH⟩ := Kd.S_elem h [] i h0 h1
  obtain ⟨u, rfl, hR⟩ := hM
  have hz : (Kd.slice T (Kd.int .i64)).sz = 1 := rfl
  refine ⟨oki, u, hR, ?_, ?_, fun k hk => (hoki k hk).1, fun hk h1 => ?_⟩
  · have := hcc 0 u rfl
    rw [hz, Nat.mul_one, Nat.add_zero] at this
    exact this
  · have := hfr 0
    rw [hz, Nat.mul_one, Nat.add_zero] at this
    exact this
  · exact Kd.H_back (Kd.H_step hH (fun k ho hn hlt => hk.2 k hlt hn)) (Kd.M_row (Kd.R_reok rfl h1 (fun k e_ => hR.1 k e_))) (fun _ hk => hk)
theorem nq_of {W w1 : World} (_hb : Below W.heap.size W w1) : ∃ n : Nat, n = W.heap.size := ⟨_, rfl⟩

end Go.Proofs.Ytcjeccohlmmfoaa.F
