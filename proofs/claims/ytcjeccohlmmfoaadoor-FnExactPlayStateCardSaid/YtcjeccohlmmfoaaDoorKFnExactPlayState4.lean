-- written by the session's program xp.py over the kit's print program, and by hand; texts joined by pack.py
import Derived.Test.YtcjeccohlmmfoaaDoorKFnExactPlayState3
namespace Go.Proofs.YtcjeccohlmmfoaaDoor.F
open Go.RowKit Go.Proofs.YtcjeccohlmmfoaaDoorW.PrintWords Go.Proofs.YtcjeccohlmmfoaaDoorW.PrintLast Go.Proofs.YtcjeccohlmmfoaaDoorW.PrintMore
attribute [local go_sem] max2_int min2_int max_two min_two max_three min_three max_four min_four   -- for this text's walks alone
set_option linter.unusedVariables false
set_option linter.unusedSimpArgs false

/-- The reference's test of nets is the program's. -/
theorem rd_two0 (a b : Int) : rd [a, b] 0 = a := rfl
theorem rd_two1 (a b : Int) : rd [a, b] 1 = b := rfl
theorem len_two {e : List Int} (h : e.length = 2) : ∃ a b, e = [a, b] := by
  match e, h with
  | [a, b], _ => exact ⟨a, b, rfl⟩
theorem rising_two (a b lo ub : Int) : rising [a, b] lo ub = (inW a lo ub && (inW b lo ub && !decide (b ≤ a))) := by
  simp [rising, risingFrom]
theorem cmp_two (a b c d : Int) : cmpL [a, b] [c, d] < 0 ↔ a < c ∨ a = c ∧ b < d := by
  simp only [cmpL]
  by_cases h1 : a < c
  · simp [h1]
  · by_cases h2 : c < a
    · simp [h1, h2]; omega
    · have : a = c := by omega
      subst this
      by_cases h3 : b < d
      · simp [h3]
      · by_cases h4 : d < b <;> simp [h3, h4]
theorem edge_good {p : Int} {e : List Int} (h : edgeBad p e = false) : ∃ a b, e = [a, b] ∧ inW a 0 (wrap64 (p - 1)) = true ∧ inW b 0 (wrap64 (p - 1)) = true ∧ ¬ b ≤ a := by
  unfold edgeBad at h
  simp only [Bool.or_eq_false_iff, Bool.not_eq_false', decide_eq_true_eq] at h
  obtain ⟨a, b, rfl⟩ := len_two h.1
  rw [rising_two] at h
  simp only [Bool.and_eq_true, Bool.not_eq_true', decide_eq_false_iff_not] at h
  exact ⟨a, b, rfl, h.2.1, h.2.2.1, h.2.2.2⟩
theorem l10Is_l0 (p : Int) (l : List (List Int)) (hl : l.length ≤ 9223372036854775807) : ∀ (d i : Nat), i + d = l.length → (∀ e ∈ l.take i, edgeBad p e = false) →
    Ev (fun k => spec_l10Is.l0 k i p l) (!(l.drop i).any (edgeBad p) && sortedBy cmpL (l.drop (i - 1))) := by
  intro d
  induction d with
  | zero =>
    intro i hi hg
    refine Ev.step (f := fun _ => some _) (fun k => ?_) (Ev.now _)
    simp only [spec_l10Is.l0]
    rw [if_neg (by omega), List.drop_of_length_le (by omega)]
    have : sortedBy cmpL (l.drop (i - 1)) = true := by
      by_cases h0 : i = 0
      · have : l = [] := List.eq_nil_of_length_eq_zero (by omega)
        subst this; simp [sortedBy]
      · rw [List.drop_eq_getElem_cons (by omega), List.drop_of_length_le (by omega)]; rfl
    rw [this]; rfl
  | succ d ih =>
    intro i hi hg
    have hlt : i < l.length := by omega
    have e1 : l.drop i = l[i] :: l.drop (i + 1) := List.drop_eq_getElem_cons hlt
    have hany : (l.drop i).any (edgeBad p) = (edgeBad p l[i] || (l.drop (i + 1)).any (edgeBad p)) := by rw [e1]; rfl
    rw [hany]
    by_cases hb : edgeBad p l[i] = true
    · -- not an edge
      rw [hb]
      refine Ev.congr (g := fun k => spec_l10Is.l0 k i p l) (f := fun k => spec_l10Is.l0 k i p l) (fun _ => rfl) ?_
      show Ev _ (!(true || _) && _)
      simp only [Bool.true_or, Bool.not_true, Bool.false_and]
      have hj : Ev (fun k => spec_l10Is.j2 k i l[i] true p l) false := Ev.step (f := fun _ => some false) (fun k => by simp only [spec_l10Is.j2]; rw [if_pos trivial]) (Ev.now _)
      refine Ev.step (f := fun k => spec_l10Is.j2 k i l[i] true p l) (fun k => ?_) hj
      simp only [spec_l10Is.l0]
      rw [if_pos (by omega), if_pos (by omega), rdL_get l i hlt]
      by_cases h2 : l[i].length = 2
      · obtain ⟨a, b, hab⟩ := len_two h2
        rw [hab] at hb ⊢
        rw [if_pos (by simp), if_pos (by simp), rd_two0, in_inW, Option.bind_some]
        by_cases ha : inW a 0 (wrap64 (p - 1)) = true
        · rw [if_pos ha, if_pos (by simp), rd_two1, in_inW, Option.bind_some]
          by_cases hb' : inW b 0 (wrap64 (p - 1)) = true
          · rw [if_pos hb']
            have : decide (a ≥ b) = true := by
              unfold edgeBad at hb
              rw [rising_two, ha, hb'] at hb
              simpa using hb
            rw [this]
          · rw [if_neg hb']
        · rw [if_neg ha]
      · rw [if_neg (by omega)]
    · have hb' : edgeBad p l[i] = false := by simpa using hb
      obtain ⟨a, b, hab, ha, hbb, hlt2⟩ := edge_good hb'
      have hg' : ∀ e ∈ l.take (i + 1), edgeBad p e = false := by
        intro e he
        rw [List.take_succ_eq_append_getElem hlt] at he
        rcases List.mem_append.1 he with h | h
        · exact hg e h
        · rw [List.mem_singleton.1 h]; exact hb'
      have ih1 := ih (i + 1) (by omega) hg'
      rw [Nat.add_sub_cancel] at ih1
      rw [hb', Bool.false_or]
      -- to the second test
      have step : ∀ v, Ev (fun k => spec_l10Is.j2 k i [a, b] false p l) v → Ev (fun k => spec_l10Is.l0 k i p l) v := by
        intro v hv
        refine Ev.step (f := fun k => spec_l10Is.j2 k i [a, b] false p l) (fun k => ?_) hv
        simp only [spec_l10Is.l0]
        rw [if_pos (by omega), if_pos (by omega), rdL_get l i hlt, hab, if_pos (by simp), if_pos (by simp), rd_two0, rd_two1, in_inW, in_inW, ha, hbb, Option.bind_some, if_pos rfl, if_pos (by simp), Option.bind_some, if_pos rfl, decide_eq_false (by omega)]
      refine step _ ?_
      by_cases h0 : i = 0
      · subst h0
        refine Ev.step (fun k => ?_) ih1
        simp only [spec_l10Is.j2]
        rw [if_neg (by simp), if_neg (by omega), wrap_next hlt hl]
      · have hp : i - 1 < l.length := by omega
        have hpm : l[i - 1] ∈ l.take i := by
          rw [List.mem_take_iff_getElem]
          exact ⟨i - 1, by omega, rfl⟩
        obtain ⟨c, d', hcd, _, _, _⟩ := edge_good (hg _ hpm)
        have ew : wrap64 ((i : Int) - 1) = ((i - 1 : Nat) : Int) := by unfold wrap64; omega
        have e2 : l.drop (i - 1) = [c, d'] :: [a, b] :: l.drop (i + 1) := by
          rw [List.drop_eq_getElem_cons hp, hcd, show i - 1 + 1 = i by omega, e1, hab]
        rw [e2]
        rw [e1, hab] at ih1
        have es : sortedBy cmpL ([c, d'] :: [a, b] :: l.drop (i + 1)) = (!decide (cmpL [a, b] [c, d'] < 0) && sortedBy cmpL ([a, b] :: l.drop (i + 1))) := rfl
        rw [es]
        by_cases h1 : c > a
        · have : cmpL [a, b] [c, d'] < 0 := (cmp_two a b c d').2 (.inl h1)
          rw [decide_eq_true this]
          simp only [Bool.not_true, Bool.false_and, Bool.and_false]
          refine Ev.step (f := fun _ => some false) (fun k => ?_) (Ev.now _)
          simp only [spec_l10Is.j2]
          rw [if_neg (by simp), if_pos (by omega), ew, if_pos (by omega), if_pos (by omega), rdL_get l (i - 1) hp, hcd, if_pos (by simp), if_pos (by simp), rd_two0, rd_two0, if_pos h1]
        · by_cases h2 : c = a
          · by_cases h3 : d' > b
            · have : cmpL [a, b] [c, d'] < 0 := (cmp_two a b c d').2 (.inr ⟨h2.symm, h3⟩)
              rw [decide_eq_true this]
              simp only [Bool.not_true, Bool.false_and, Bool.and_false]
              refine Ev.step (f := fun _ => some false) (fun k => ?_) (Ev.now _)
              simp only [spec_l10Is.j2]
              rw [if_neg (by simp), if_pos (by omega), ew, if_pos (by omega), if_pos (by omega), rdL_get l (i - 1) hp, hcd, if_pos (by simp), if_pos (by simp), rd_two0, rd_two0, if_neg h1, if_pos h2, if_pos (by simp), if_pos (by simp), rd_two1, rd_two1, if_pos h3]
            · have : ¬ cmpL [a, b] [c, d'] < 0 := fun h => by
                rcases (cmp_two a b c d').1 h with h | h <;> omega
              rw [decide_eq_false this]
              refine Ev.step (fun k => ?_) ih1
              simp only [spec_l10Is.j2]
              rw [if_neg (by simp), if_pos (by omega), ew, if_pos (by omega), if_pos (by omega), rdL_get l (i - 1) hp, hcd, if_pos (by simp), if_pos (by simp), rd_two0, rd_two0, if_neg h1, if_pos h2, if_pos (by simp), if_pos (by simp), rd_two1, rd_two1, if_neg h3, wrap_next hlt hl]
          · have : ¬ cmpL [a, b] [c, d'] < 0 := fun h => by
              rcases (cmp_two a b c d').1 h with h | h <;> omega
            rw [decide_eq_false this]
            refine Ev.step (fun k => ?_) ih1
            simp only [spec_l10Is.j2]
            rw [if_neg (by simp), if_pos (by omega), ew, if_pos (by omega), if_pos (by omega), rdL_get l (i - 1) hp, hcd, if_pos (by simp), if_pos (by simp), rd_two0, rd_two0, if_neg h1, if_neg h2, wrap_next hlt hl]
theorem l10Is_ev (p : Int) (l : List (List Int)) (hl : l.length ≤ 9223372036854775807) : Ev (fun k => spec_l10Is.f k p l) (isNetV p l) := by
  unfold spec_l10Is.f isNetV
  rw [in_inW]
  have hj : Ev (fun k => spec_l10Is.j0 k true p l) false := Ev.step (f := fun _ => some false) (fun k => by simp only [spec_l10Is.j0]; rw [if_pos trivial]) (Ev.now _)
  by_cases h1 : inW p 2 8 = true
  · rw [h1]
    by_cases h2 : (l.length : Int) > 10
    · rw [decide_eq_true h2]
      exact Ev.congr (fun k => by rw [Option.bind_some, if_pos rfl]) hj
    · rw [decide_eq_false h2]
      have := l10Is_l0 p l hl l.length 0 (by omega) (by simp)
      rw [List.drop_zero] at this
      refine Ev.congr (f := fun k => spec_l10Is.j0 k false p l) (fun k => by rw [Option.bind_some, if_pos rfl]) (Ev.step (fun k => ?_) this)
      simp only [spec_l10Is.j0]
      rw [if_neg (by simp)]; rfl
  · have h1' : inW p 2 8 = false := by simpa using h1
    rw [h1']
    exact Ev.congr (fun k => by rw [Option.bind_some, if_neg (by simp)]) hj
/-- The verifier's helpers on nets. -/
theorem szNet_ev (p : Int) (l : List (List Int)) (hl : l.length ≤ maxLen ∧ ∀ x ∈ l, x.length ≤ maxLen ∧ ∀ y ∈ x, (Lit.int .i64 y).wf = true) :
    ∃ v, Ev (fun k => laws_szNet.f k p l 1048576) v ∧ (v = -1 ∨ 0 ≤ v ∧ l.length ≤ 1048576 ∧ ∀ x ∈ l, x.length ≤ 1048576) := by
  obtain ⟨v, hv, h⟩ := szInt64SS_ev l hl.1 (fun x hx => (hl.2 x hx).1) 1048576 (by omega) (by omega)
  unfold laws_szNet.f
  rcases h with rfl | ⟨h0, _, h1, h2, _⟩
  · exact ⟨-1, Ev.bind hv (Ev.congr (fun k => by rw [if_pos (by omega)]) (Ev.now _)), .inl rfl⟩
  · exact ⟨v, Ev.bind hv (Ev.congr (fun k => by rw [if_neg (by omega)]) (Ev.now _)), .inr ⟨h0, by omega, fun x hx => by have := h2 x hx; omega⟩⟩
theorem toNet_ev (p : Int) (l : List (List Int)) (hl : l.length ≤ 1048576) (hx : ∀ x ∈ l, x.length ≤ 1048576) : Ev (fun k => laws_toNet.f k p l) (p, l) := by
  unfold laws_toNet.f
  exact Ev.bind (toInt64SS_ev l hl hx) (Ev.now _)
theorem eqNet_self (p : Int) (l : List (List Int)) (hl : l.length ≤ 1048576) (hx : ∀ x ∈ l, x.length ≤ 1048576) : Ev (fun k => laws_eqNet.f k p l p l) true := by
  unfold laws_eqNet.f
  refine Ev.congr (fun k => by rw [if_pos rfl]) (Ev.bind (eqInt64SS_self l (by omega) (fun z hz => by have := hx z hz; omega)) (Ev.congr (fun k => by rw [if_pos rfl]) (Ev.now _)))
-- A net's edges.
theorem netEdges {p : Int} {l : List (List Int)} (h : isNetV p l = true) : NetEdges l ∧ 2 ≤ p ∧ p ≤ 8 := by
  unfold isNetV at h
  simp only [Bool.and_eq_true, Bool.not_eq_true', decide_eq_false_iff_not] at h
  obtain ⟨⟨⟨h1, h2⟩, h3⟩, _⟩ := h
  unfold inW at h1
  simp only [Bool.and_eq_true, decide_eq_true_eq] at h1
  refine ⟨⟨by omega, fun e he => ?_⟩, h1.1, h1.2⟩
  have hb : edgeBad p e = false := by
    have := List.any_eq_false.1 h3 e he
    simpa using this
  obtain ⟨a, b, rfl, ha, hb2, _⟩ := edge_good hb
  unfold inW at ha hb2
  simp only [Bool.and_eq_true, decide_eq_true_eq] at ha hb2
  have e : wrap64 (p - 1) = p - 1 := by unfold wrap64; omega
  rw [e] at ha hb2
  refine ⟨a.toNat, b.toNat, ?_, by omega, by omega⟩
  rw [Int.toNat_of_nonneg ha.1, Int.toNat_of_nonneg hb2.1]
/-! ### impl_Net_over: function 36 -/
-- EXTERNAL: by hand
-- impl_Net_reached impl_IsNet
def impl_Net_over.f (a0_0 : Int) (l0_1 : List (List Int)) (a1 : ByteArray) : Option Int := if isNetV a0_0 l0_1 = true ∧ a1.size = l0_1.length then some (ovV l0_1 a1) else none
set_option maxHeartbeats 2000000 in
set_option maxRecDepth 100000 in
theorem overPred1 (g : Nat)  (s : ByteArray) (w : World) (hbox : w.heap[g]? = some (.cells #[.string s] 9 (0, 0))) :
    PredD Tryd.prog 62 #[.pointer (some ⟨g, 0, none⟩)] (Kd.int .i64) (fun x => 0 ≤ x ∧ x < (s.size : Int)) (fun x => bt s x == 115) w := by
  intro W x v hq hK hb
  obtain ⟨h0, h1⟩ := hq
  obtain rfl : v = .int .i64 x := by simpa [Kd.int, Kd.scalar] using hK
  show Calls Tryd.prog 62 #[.int .i64 x, .pointer (some ⟨g, 0, none⟩)] W _
  have hc0 : W.cell? ⟨g, 0, none⟩ = some (.string s) := (blk_cell (blk_below hbox hb) 0).trans rfl
  have hx := bt_at s x
  have p := eq_true h0
  have q := eq_true h1
  clear hbox hb hK h0 h1
  go_enter Tryd.func62, Tryd.ntmps62
  go_wp2
  go_ret
  exact ⟨rfl, Drawn0.refl _⟩
set_option maxHeartbeats 2000000 in
set_option maxRecDepth 100000 in
theorem overPred2 (g : Nat)  (s : ByteArray) (w : World) (hbox : w.heap[g]? = some (.cells #[.string s] 9 (0, 0))) :
    PredD Tryd.prog 63 #[.pointer (some ⟨g, 0, none⟩)] (Kd.int .i64) (fun x => 0 ≤ x ∧ x < (s.size : Int)) (fun x => bt s x != 99) w := by
  intro W x v hq hK hb
  obtain ⟨h0, h1⟩ := hq
  obtain rfl : v = .int .i64 x := by simpa [Kd.int, Kd.scalar] using hK
  show Calls Tryd.prog 63 #[.int .i64 x, .pointer (some ⟨g, 0, none⟩)] W _
  have hc0 : W.cell? ⟨g, 0, none⟩ = some (.string s) := (blk_cell (blk_below hbox hb) 0).trans rfl
  have hx := bt_at s x
  have p := eq_true h0
  have q := eq_true h1
  clear hbox hb hK h0 h1
  go_enter Tryd.func63, Tryd.ntmps63
  go_wp2
  go_ret
  exact ⟨rfl, Drawn0.refl _⟩

theorem and_two (c : Nat) (h : c < 256) : Go.bits .and .i64 (c : Int) 2 = if c.testBit 1 = true then 2 else 0 := by
  have := bits_and_nat c 2 (by omega) (by omega)
  rw [show ((2 : Nat) : Int) = 2 from rfl] at this
  rw [this]
  have e : c &&& 2 = if c.testBit 1 = true then 2 else 0 := by
    apply Nat.eq_of_testBit_eq
    intro i
    rw [Nat.testBit_and, show (2 : Nat) = 2 ^ 1 from rfl, Nat.testBit_two_pow]
    by_cases hi : 1 = i
    · subst hi; cases hb : c.testBit 1
      · simp
      · rw [if_pos rfl]; rfl
    · cases hb : c.testBit 1
      · simp [hi]
      · rw [if_pos rfl, show (2 : Nat) = 2 ^ 1 from rfl, Nat.testBit_two_pow]; simp [hi]
  rw [e]; split <;> rfl
set_option maxHeartbeats 4000000 in
set_option maxRecDepth 100000 in
theorem impl_Net_over.calls (a0_0 : Int) (A0_1 : Option Addr) (c0_1 : Nat) (l0_1 : List (List Int)) (a1 : ByteArray) (r : Int) (w : World) (hr0_1 : Kd.C (Kd.slice 2 (Kd.int .i64)) w A0_1 l0_1.length l0_1) (hc0_1 : l0_1.length ≤ c0_1) (h : impl_Net_over.f a0_0 l0_1 a1 = some r) :
    Calls Tryd.prog 36 #[.agg #[.int .i64 a0_0, .slice A0_1 l0_1.length c0_1], .string a1] w fun e w' => e = .returned (.int .i64 r) ∧ Below w.heap.size w w' := by
  unfold impl_Net_over.f at h
  by_cases hv : isNetV a0_0 l0_1 = true ∧ a1.size = l0_1.length
  case neg => rw [if_neg hv] at h; cases h
  rw [if_pos hv] at h
  obtain rfl := Option.some.inj h
  clear h
  obtain ⟨hv, hsz⟩ := hv
  have hE := (netEdges hv).1
  have eg1 : ∀ args w, (callFunc 62 args).run Tryd.prog w = .ok (.enter 62 args) w := enters_of Tryd.func62 (by kernel_rfl) rfl
  have eg2 : ∀ args w, (callFunc 63 args).run Tryd.prog w = .ok (.enter 63 args) w := enters_of Tryd.func63 (by kernel_rfl) rfl
  have HB := Aside0.mk (Below.refl w.heap.size w)
  have HR := Aside0.mk hr0_1
  have HC0 := Aside0.mk hc0_1
  have HE := Aside0.mk (net_edges_ok hE)
  have hu := Tryd.underlying28
  obtain ⟨k1, hk1⟩ := (reachI_N (fun x => bt a1 x == 115) l0_1 hE 0 (by omega)).rounds
  obtain ⟨k2, hk2⟩ := (reachI_N (fun x => bt a1 x != 99) l0_1 hE 0 (by omega)).rounds
  have P1 := fun (W : World) (g : Nat) (hb : W.heap[g]? = some (.cells #[.string a1] 9 (0, 0))) => overPred1 g a1 W hb
  have P2 := fun (W : World) (g : Nat) (hb : W.heap[g]? = some (.cells #[.string a1] 9 (0, 0))) => overPred2 g a1 W hb
  rw [hsz] at P1 P2
  unfold ovV
  have b1 := (reachN_is hE (fun i => bt a1 (i : Int) == 115) 0 (by omega)).1
  have b2 := (reachN_is hE (fun i => bt a1 (i : Int) != 99) 0 (by omega)).1
  generalize reachN (fun i => bt a1 (i : Int) == 115) l0_1 0 = n1 at *
  generalize reachN (fun i => bt a1 (i : Int) != 99) l0_1 0 = n2 at *
  have t1 := and_two n1 b1
  have t2 := and_two n2 b2
  generalize n1.testBit 1 = q1 at t1 ⊢
  generalize n2.testBit 1 = q2 at t2 ⊢
  obtain ⟨r1, e1⟩ : ∃ r : Int, r = n1 := ⟨_, rfl⟩
  obtain ⟨r2, e2⟩ : ∃ r : Int, r = n2 := ⟨_, rfl⟩
  rw [← e1] at hk1 t1
  rw [← e2] at hk2 t2
  have HR1_ := Aside0.mk hk1
  have HR2_ := Aside0.mk hk2
  have tok1 : True := trivial
  have tok2 : True := trivial
  clear hv hsz hE hr0_1 hc0_1 hk1 hk2 b1 b2 e1 e2 n1 n2
  cases q1 with
  | true =>
    have z1 : (Go.bits .and .i64 r1 2 != 0) = true := by rw [t1]; rfl
    clear t1 t2
    go_enter Tryd.func36, Tryd.ntmps36
    go_wp2_with (first | ((with_reducible refine gate_dst (N := 2) rfl ?_); refine box_event ?hg (N := 2) ?hd (cs := #[.int .i64 a0_0, .slice A0_1 l0_1.length c0_1]) (t := 28) ?hr ?_; (case hd => rfl); (case hg => rfl); (case hr => first | (go_simp; done) | (go_simp; rfl)); intro g2 hg_ w_ hbox hb; have HX2 := Aside0.mk hbox; have HG2 := Aside0.mk (show w.heap.size ≤ g2 by have := below_size HB.out; omega); clear hbox hg_; have nHB_ := Aside0.mk (below_step HB.out hb); clear HB hb; have HB := nHB_; clear nHB_; have hc20 := (blk_cell HX2.out 0).trans rfl; have hc21 := (blk_cell HX2.out 1).trans rfl) | ((with_reducible refine gate_dst (N := 3) rfl ?_); refine box_event ?hg (N := 3) ?hd (cs := #[.string a1]) (t := 9) ?hr ?_; (case hd => rfl); (case hg => rfl); (case hr => first | (go_simp; done) | (go_simp; rfl)); intro g3 hg_ w_ hbox hb; have HX3 := Aside0.mk hbox; have HG3 := Aside0.mk (show w.heap.size ≤ g3 ∧ g2 ≠ g3 by have := below_size HB.out; have := blk_lt HX2.out; omega); (try clear hc20); (try clear hc21); clear hbox hg_; have nHB_ := Aside0.mk (below_step HB.out hb); have nHX2_ := Aside0.mk (blk_below HX2.out hb); clear HB HX2 hb; have HB := nHB_; have HX2 := nHX2_; clear nHB_ nHX2_; have hc20 := (blk_cell HX2.out 0).trans rfl; have hc21 := (blk_cell HX2.out 1).trans rfl; have hc30 := (blk_cell HX3.out 0).trans rfl) | (go_at_call 61; have _t := tok1; refine (impl_Net_reached.calls 62 #[.pointer (some ⟨g3, 0, none⟩)] _ eg1 k1 a0_0 A0_1 c0_1 l0_1 0 r1 _ (PredD.toK (P1 _ _ HX3.out)) (Kd.C_below HR.out HB.out) HC0.out HE.out (by omega) HR1_.out).mono ?_; rintro e w_ ⟨rfl, hb⟩; (try clear hc20); (try clear hc21); (try clear hc30); have nHB_ := Aside0.mk (below_step HB.out hb); have nHX2_ := Aside0.mk (blk_below HX2.out hb); have nHX3_ := Aside0.mk (blk_below HX3.out hb); clear HB HX2 HX3 hb; have HB := nHB_; have HX2 := nHX2_; have HX3 := nHX3_; clear nHB_ nHX2_ nHX3_; have hc20 := (blk_cell HX2.out 0).trans rfl; have hc21 := (blk_cell HX2.out 1).trans rfl; have hc30 := (blk_cell HX3.out 0).trans rfl; (try clear tok1)))
    go_ret
    exact ⟨rfl, HB.out⟩
  | false =>
    have z1 : (Go.bits .and .i64 r1 2 != 0) = false := by rw [t1]; rfl
    cases q2 with
    | true =>
      have z2 : (Go.bits .and .i64 r2 2 == 0) = false := by rw [t2]; rfl
      clear t1 t2
      go_enter Tryd.func36, Tryd.ntmps36
      go_wp2_with (first | ((with_reducible refine gate_dst (N := 2) rfl ?_); refine box_event ?hg (N := 2) ?hd (cs := #[.int .i64 a0_0, .slice A0_1 l0_1.length c0_1]) (t := 28) ?hr ?_; (case hd => rfl); (case hg => rfl); (case hr => first | (go_simp; done) | (go_simp; rfl)); intro g2 hg_ w_ hbox hb; have HX2 := Aside0.mk hbox; have HG2 := Aside0.mk (show w.heap.size ≤ g2 by have := below_size HB.out; omega); clear hbox hg_; have nHB_ := Aside0.mk (below_step HB.out hb); clear HB hb; have HB := nHB_; clear nHB_; have hc20 := (blk_cell HX2.out 0).trans rfl; have hc21 := (blk_cell HX2.out 1).trans rfl) | ((with_reducible refine gate_dst (N := 3) rfl ?_); refine box_event ?hg (N := 3) ?hd (cs := #[.string a1]) (t := 9) ?hr ?_; (case hd => rfl); (case hg => rfl); (case hr => first | (go_simp; done) | (go_simp; rfl)); intro g3 hg_ w_ hbox hb; have HX3 := Aside0.mk hbox; have HG3 := Aside0.mk (show w.heap.size ≤ g3 ∧ g2 ≠ g3 by have := below_size HB.out; have := blk_lt HX2.out; omega); (try clear hc20); (try clear hc21); clear hbox hg_; have nHB_ := Aside0.mk (below_step HB.out hb); have nHX2_ := Aside0.mk (blk_below HX2.out hb); clear HB HX2 hb; have HB := nHB_; have HX2 := nHX2_; clear nHB_ nHX2_; have hc20 := (blk_cell HX2.out 0).trans rfl; have hc21 := (blk_cell HX2.out 1).trans rfl; have hc30 := (blk_cell HX3.out 0).trans rfl) | (go_at_call 61; have _t := tok1; refine (impl_Net_reached.calls 62 #[.pointer (some ⟨g3, 0, none⟩)] _ eg1 k1 a0_0 A0_1 c0_1 l0_1 0 r1 _ (PredD.toK (P1 _ _ HX3.out)) (Kd.C_below HR.out HB.out) HC0.out HE.out (by omega) HR1_.out).mono ?_; rintro e w_ ⟨rfl, hb⟩; (try clear hc20); (try clear hc21); (try clear hc30); have nHB_ := Aside0.mk (below_step HB.out hb); have nHX2_ := Aside0.mk (blk_below HX2.out hb); have nHX3_ := Aside0.mk (blk_below HX3.out hb); clear HB HX2 HX3 hb; have HB := nHB_; have HX2 := nHX2_; have HX3 := nHX3_; clear nHB_ nHX2_ nHX3_; have hc20 := (blk_cell HX2.out 0).trans rfl; have hc21 := (blk_cell HX2.out 1).trans rfl; have hc30 := (blk_cell HX3.out 0).trans rfl; (try clear tok1)) | (go_at_call 61; have _t := tok2; refine (impl_Net_reached.calls 63 #[.pointer (some ⟨g3, 0, none⟩)] _ eg2 k2 a0_0 A0_1 c0_1 l0_1 0 r2 _ (PredD.toK (P2 _ _ HX3.out)) (Kd.C_below HR.out HB.out) HC0.out HE.out (by omega) HR2_.out).mono ?_; rintro e w_ ⟨rfl, hb⟩; (try clear hc20); (try clear hc21); (try clear hc30); have nHB_ := Aside0.mk (below_step HB.out hb); have nHX2_ := Aside0.mk (blk_below HX2.out hb); have nHX3_ := Aside0.mk (blk_below HX3.out hb); clear HB HX2 HX3 hb; have HB := nHB_; have HX2 := nHX2_; have HX3 := nHX3_; clear nHB_ nHX2_ nHX3_; have hc20 := (blk_cell HX2.out 0).trans rfl; have hc21 := (blk_cell HX2.out 1).trans rfl; have hc30 := (blk_cell HX3.out 0).trans rfl; (try clear tok2)))
      go_ret
      exact ⟨rfl, HB.out⟩
    | false =>
      have z2 : (Go.bits .and .i64 r2 2 == 0) = true := by rw [t2]; rfl
      clear t1 t2
      go_enter Tryd.func36, Tryd.ntmps36
      go_wp2_with (first | ((with_reducible refine gate_dst (N := 2) rfl ?_); refine box_event ?hg (N := 2) ?hd (cs := #[.int .i64 a0_0, .slice A0_1 l0_1.length c0_1]) (t := 28) ?hr ?_; (case hd => rfl); (case hg => rfl); (case hr => first | (go_simp; done) | (go_simp; rfl)); intro g2 hg_ w_ hbox hb; have HX2 := Aside0.mk hbox; have HG2 := Aside0.mk (show w.heap.size ≤ g2 by have := below_size HB.out; omega); clear hbox hg_; have nHB_ := Aside0.mk (below_step HB.out hb); clear HB hb; have HB := nHB_; clear nHB_; have hc20 := (blk_cell HX2.out 0).trans rfl; have hc21 := (blk_cell HX2.out 1).trans rfl) | ((with_reducible refine gate_dst (N := 3) rfl ?_); refine box_event ?hg (N := 3) ?hd (cs := #[.string a1]) (t := 9) ?hr ?_; (case hd => rfl); (case hg => rfl); (case hr => first | (go_simp; done) | (go_simp; rfl)); intro g3 hg_ w_ hbox hb; have HX3 := Aside0.mk hbox; have HG3 := Aside0.mk (show w.heap.size ≤ g3 ∧ g2 ≠ g3 by have := below_size HB.out; have := blk_lt HX2.out; omega); (try clear hc20); (try clear hc21); clear hbox hg_; have nHB_ := Aside0.mk (below_step HB.out hb); have nHX2_ := Aside0.mk (blk_below HX2.out hb); clear HB HX2 hb; have HB := nHB_; have HX2 := nHX2_; clear nHB_ nHX2_; have hc20 := (blk_cell HX2.out 0).trans rfl; have hc21 := (blk_cell HX2.out 1).trans rfl; have hc30 := (blk_cell HX3.out 0).trans rfl) | (go_at_call 61; have _t := tok1; refine (impl_Net_reached.calls 62 #[.pointer (some ⟨g3, 0, none⟩)] _ eg1 k1 a0_0 A0_1 c0_1 l0_1 0 r1 _ (PredD.toK (P1 _ _ HX3.out)) (Kd.C_below HR.out HB.out) HC0.out HE.out (by omega) HR1_.out).mono ?_; rintro e w_ ⟨rfl, hb⟩; (try clear hc20); (try clear hc21); (try clear hc30); have nHB_ := Aside0.mk (below_step HB.out hb); have nHX2_ := Aside0.mk (blk_below HX2.out hb); have nHX3_ := Aside0.mk (blk_below HX3.out hb); clear HB HX2 HX3 hb; have HB := nHB_; have HX2 := nHX2_; have HX3 := nHX3_; clear nHB_ nHX2_ nHX3_; have hc20 := (blk_cell HX2.out 0).trans rfl; have hc21 := (blk_cell HX2.out 1).trans rfl; have hc30 := (blk_cell HX3.out 0).trans rfl; (try clear tok1)) | (go_at_call 61; have _t := tok2; refine (impl_Net_reached.calls 63 #[.pointer (some ⟨g3, 0, none⟩)] _ eg2 k2 a0_0 A0_1 c0_1 l0_1 0 r2 _ (PredD.toK (P2 _ _ HX3.out)) (Kd.C_below HR.out HB.out) HC0.out HE.out (by omega) HR2_.out).mono ?_; rintro e w_ ⟨rfl, hb⟩; (try clear hc20); (try clear hc21); (try clear hc30); have nHB_ := Aside0.mk (below_step HB.out hb); have nHX2_ := Aside0.mk (blk_below HX2.out hb); have nHX3_ := Aside0.mk (blk_below HX3.out hb); clear HB HX2 HX3 hb; have HB := nHB_; have HX2 := nHX2_; have HX3 := nHX3_; clear nHB_ nHX2_ nHX3_; have hc20 := (blk_cell HX2.out 0).trans rfl; have hc21 := (blk_cell HX2.out 1).trans rfl; have hc30 := (blk_cell HX3.out 0).trans rfl; (try clear tok2)))
      go_ret
      exact ⟨rfl, HB.out⟩
/-! ### impl_turn_after: function 48 -/
def impl_turn_after.f (a0_0 : ByteArray) (a0_1 : Bool) (a1 : Int) : Option (ByteArray × Bool) := if a0_1 = true then (if 0 ≤ a1 then (if a1 ≤ (a0_0.size : Int) then (if (a0_0.extract 0 (a1 : Int).toNat).size + 1 ≤ 9223372036854775807 then (if 0 ≤ (wrap64 (a1 + 1)) then (if (wrap64 (a1 + 1)) ≤ (a0_0.size : Int) then (if ((a0_0.extract 0 (a1 : Int).toNat) ++ (⟨#[115]⟩ : ByteArray)).size + (a0_0.extract ((wrap64 (a1 + 1)) : Int).toNat a0_0.size).size ≤ 9223372036854775807 then (some (((a0_0.extract 0 (a1 : Int).toNat) ++ (⟨#[115]⟩ : ByteArray)) ++ (a0_0.extract ((wrap64 (a1 + 1)) : Int).toNat a0_0.size), !a0_1)) else (none)) else (none)) else (none)) else (none)) else (none)) else (none)) else (if 0 ≤ a1 then (if a1 ≤ (a0_0.size : Int) then (if (a0_0.extract 0 (a1 : Int).toNat).size + 1 ≤ 9223372036854775807 then (if 0 ≤ (wrap64 (a1 + 1)) then (if (wrap64 (a1 + 1)) ≤ (a0_0.size : Int) then (if ((a0_0.extract 0 (a1 : Int).toNat) ++ (⟨#[99]⟩ : ByteArray)).size + (a0_0.extract ((wrap64 (a1 + 1)) : Int).toNat a0_0.size).size ≤ 9223372036854775807 then (some (((a0_0.extract 0 (a1 : Int).toNat) ++ (⟨#[99]⟩ : ByteArray)) ++ (a0_0.extract ((wrap64 (a1 + 1)) : Int).toNat a0_0.size), !a0_1)) else (none)) else (none)) else (none)) else (none)) else (none)) else (none))
def impl_turn_after.T4 : Bool × List (List Nat × List Nat) := (true, [([], []), ([0], [0]), ([], []), ([1, 2], [1, 2]), ([], []), ([3, 4], [3, 4]), ([], []), ([6], [6]), ([], []), ([8], [8]), ([7, 9], [7, 9]), ([5, 10], [5, 10]), ([], []), ([12], [12]), ([13], [13]), ([11, 14], [11, 14]), ([15, 0, 1, 2, 3, 4, 5, 6, 7, 8, 9, 10, 11, 12, 13, 14, 15], [15])])
def impl_turn_after.B4 : List Nat := [0, 1, 0, 7, 0, 31, 0, 64, 0, 256, 960, 2047, 0, 4096, 12288, 32767, 65535]
theorem impl_turn_after.tab4 : rtab .any (opsOf Tryd.f48 4) = impl_turn_after.T4 := by kernel_rfl
theorem impl_turn_after.bits4 : waitsOk impl_turn_after.T4.2 impl_turn_after.B4 = true := by kernel_rfl
set_option maxHeartbeats 8000000 in
set_option maxRecDepth 100000 in
theorem impl_turn_after.calls (a0_0 : ByteArray) (a0_1 : Bool) (a1 : Int) (r1 : ByteArray) (r2 : Bool) (w : World) (h : impl_turn_after.f a0_0 a0_1 a1 = some (r1, r2)) :
  Calls Tryd.prog 48 #[.agg #[.string a0_0, .bool a0_1], .int .i64 a1] w fun e w' => e = .returned (.agg #[.string r1, .bool r2]) ∧ Below w.heap.size w w' := by
 have hu64 := Tryd.underlying64
 have HB := Aside0.mk (Below.refl w.heap.size w)
 have H : (if a0_1 = true then (if 0 ≤ a1 then (if a1 ≤ (a0_0.size : Int) then (if (a0_0.extract 0 (a1 : Int).toNat).size + 1 ≤ 9223372036854775807 then (if 0 ≤ (wrap64 (a1 + 1)) then (if (wrap64 (a1 + 1)) ≤ (a0_0.size : Int) then (if ((a0_0.extract 0 (a1 : Int).toNat) ++ (⟨#[115]⟩ : ByteArray)).size + (a0_0.extract ((wrap64 (a1 + 1)) : Int).toNat a0_0.size).size ≤ 9223372036854775807 then (some (((a0_0.extract 0 (a1 : Int).toNat) ++ (⟨#[115]⟩ : ByteArray)) ++ (a0_0.extract ((wrap64 (a1 + 1)) : Int).toNat a0_0.size), !a0_1)) else (none)) else (none)) else (none)) else (none)) else (none)) else (none)) else (if 0 ≤ a1 then (if a1 ≤ (a0_0.size : Int) then (if (a0_0.extract 0 (a1 : Int).toNat).size + 1 ≤ 9223372036854775807 then (if 0 ≤ (wrap64 (a1 + 1)) then (if (wrap64 (a1 + 1)) ≤ (a0_0.size : Int) then (if ((a0_0.extract 0 (a1 : Int).toNat) ++ (⟨#[99]⟩ : ByteArray)).size + (a0_0.extract ((wrap64 (a1 + 1)) : Int).toNat a0_0.size).size ≤ 9223372036854775807 then (some (((a0_0.extract 0 (a1 : Int).toNat) ++ (⟨#[99]⟩ : ByteArray)) ++ (a0_0.extract ((wrap64 (a1 + 1)) : Int).toNat a0_0.size), !a0_1)) else (none)) else (none)) else (none)) else (none)) else (none)) else (none))) = some (r1, r2) := h
 clear h
 by_cases c3 : a0_1 = true
 ·subst c3
  have H1 : (if 0 ≤ a1 then (if a1 ≤ (a0_0.size : Int) then (if (a0_0.extract 0 (a1 : Int).toNat).size + 1 ≤ 9223372036854775807 then (if 0 ≤ (wrap64 (a1 + 1)) then (if (wrap64 (a1 + 1)) ≤ (a0_0.size : Int) then (if ((a0_0.extract 0 (a1 : Int).toNat) ++ (⟨#[115]⟩ : ByteArray)).size + (a0_0.extract ((wrap64 (a1 + 1)) : Int).toNat a0_0.size).size ≤ 9223372036854775807 then (some (((a0_0.extract 0 (a1 : Int).toNat) ++ (⟨#[115]⟩ : ByteArray)) ++ (a0_0.extract ((wrap64 (a1 + 1)) : Int).toNat a0_0.size), !true)) else (none)) else (none)) else (none)) else (none)) else (none)) else (none)) = some (r1, r2) := by rw [if_pos rfl] at H; exact H
  clear H
  have H := H1
  clear H1
  by_cases c4 : 0 ≤ a1
  ·rw [if_pos c4] at H
   have c4b0 := eq_true c4
   have c4b1 : decide (0 ≤ a1) = true := decide_eq_true c4
   clear c4
   by_cases c5 : a1 ≤ (a0_0.size : Int)
   ·rw [if_pos c5] at H
    have c5b0 := eq_true c5
    have c5b1 : decide (a1 ≤ (a0_0.size : Int)) = true := decide_eq_true c5
    clear c5
    by_cases c6 : (a0_0.extract 0 (a1 : Int).toNat).size + 1 ≤ 9223372036854775807
    ·rw [if_pos c6] at H
     have c6b0 := eq_true c6
     have c6b1 : decide ((a0_0.extract 0 (a1 : Int).toNat).size + 1 ≤ 9223372036854775807) = true := decide_eq_true c6
     try have c6b2 : (9223372036854775807 < (a0_0.extract 0 (a1 : Int).toNat).size + 1) = False := eq_false (Nat.not_lt.2 c6)
     have zc0 : a1.toNat + 1 ≤ 9223372036854775807 := (by have h_ := c6; rw [ByteArray.size_extract] at h_; have g_ : a1 ≤ (a0_0.size : Int) := of_decide_eq_true ‹decide (a1 ≤ (a0_0.size : Int)) = true›; omega)
     have zcc6 : (9223372036854775807 < a1.toNat + 1) = False := eq_false (by omega)
     clear zc0
     obtain ⟨ji7, hji7⟩ : ∃ j_ : Int, (wrap64 (a1 + 1)) = j_ := ⟨_, rfl⟩
     replace H : (if 0 ≤ (ji7) then (if (ji7) ≤ (a0_0.size : Int) then (if ((a0_0.extract 0 (a1 : Int).toNat) ++ (⟨#[115]⟩ : ByteArray)).size + (a0_0.extract ((ji7) : Int).toNat a0_0.size).size ≤ 9223372036854775807 then (some (((a0_0.extract 0 (a1 : Int).toNat) ++ (⟨#[115]⟩ : ByteArray)) ++ (a0_0.extract ((ji7) : Int).toNat a0_0.size), !true)) else (none)) else (none)) else (none)) = some (r1, r2) := by first | (rw [hji7] at H; exact H) | (simp only [hji7] at H ⊢; exact H)
     have hji7w : (IntKind.i64.wrap (a1 + 1)) = ji7 := (i64_w _).trans hji7
     by_cases c8 : 0 ≤ (ji7)
     ·rw [if_pos c8] at H
      have c8b0 := eq_true c8
      have c8b1 : decide (0 ≤ (ji7)) = true := decide_eq_true c8
      clear c8
      by_cases c9 : (ji7) ≤ (a0_0.size : Int)
      ·rw [if_pos c9] at H
       have c9b0 := eq_true c9
       have c9b1 : decide ((ji7) ≤ (a0_0.size : Int)) = true := decide_eq_true c9
       clear c9
       by_cases c10 : ((a0_0.extract 0 (a1 : Int).toNat) ++ (⟨#[115]⟩ : ByteArray)).size + (a0_0.extract ((ji7) : Int).toNat a0_0.size).size ≤ 9223372036854775807
       ·rw [if_pos c10] at H
        have c10b0 := eq_true c10
        have c10b1 : decide (((a0_0.extract 0 (a1 : Int).toNat) ++ (⟨#[115]⟩ : ByteArray)).size + (a0_0.extract ((ji7) : Int).toNat a0_0.size).size ≤ 9223372036854775807) = true := decide_eq_true c10
        try have c10b2 : (9223372036854775807 < ((a0_0.extract 0 (a1 : Int).toNat) ++ (⟨#[115]⟩ : ByteArray)).size + (a0_0.extract ((ji7) : Int).toNat a0_0.size).size) = False := eq_false (Nat.not_lt.2 c10)
        have zc0 : a1.toNat + 1 + (a0_0.size - ji7.toNat) ≤ 9223372036854775807 := (by have h_ := c10; have e_ : (⟨#[115]⟩ : ByteArray).size = 1 := rfl; rw [ByteArray.size_append, ByteArray.size_extract, ByteArray.size_extract, e_] at h_; have g_ : a1 ≤ (a0_0.size : Int) := of_decide_eq_true ‹decide (a1 ≤ (a0_0.size : Int)) = true›; omega)
        have zcc10 : (9223372036854775807 < a1.toNat + 1 + (a0_0.size - ji7.toNat)) = False := eq_false (by omega)
        clear zc0
        simp only [Option.some.injEq, Prod.mk.injEq] at H
        obtain ⟨rfl, rfl⟩ := H
        go_enter Tryd.func48, Tryd.ntmps48
        try go_wp2_with (first | ((with_reducible refine gate_dst (N := 2) rfl ?_); refine box_event ?hg (N := 2) ?hd (cs := #[.string a0_0, .bool true]) (t := 64) ?hr ?_; (case hd => rfl); (case hg => rfl); (case hr => first | (go_simp; done) | (go_simp; rfl)); intro gb245 hg w11 hbox hb; have n0_ := Aside0.mk (below_step hb_ hb); have n1_ := Aside0.mk (hbox); have n2_ := Aside0.mk ((by rw [hg]; exact (below_size hb_) : w.heap.size ≤ gb245)); have n3_ := Aside0.mk ((by rw [hg]; exact (below_size hb_) : w.heap.size ≤ gb245)); clear HB; have HB := n0_; have BK245 := n1_; have GW245 := n2_; have GE245 := n3_; clear n0_ n1_ n2_ n3_; clear hb hbox hg) | ((with_reducible refine gate_dst (N := 4) rfl ?_); refine box_event ?hg (N := 4) ?hd (cs := #[.string (⟨#[]⟩ : ByteArray), .bool false]) (t := 64) ?hr ?_; (case hd => rfl); (case hg => rfl); (case hr => first | (go_simp; done) | (go_simp; rfl)); intro gb246 hg w12 hbox hb; have n0_ := Aside0.mk (blk_below (g := gb245) (o := .cells #[.string a0_0, .bool true] 64 (0, 0)) (by (with_reducible repeat (first | refine blk_drewN ?_ _ | refine blk_drew ?_ | refine blk_alloc ?_ _)); exact BK245.out) hb); have n1_ := Aside0.mk (below_step (by repeat (first | (with_reducible first | exact HB.out | apply below_alloc | apply pw_below_drewN | apply below_drew1 | refine below_set ?_ GE245.out) | exact HB.out)) hb); have n2_ := Aside0.mk (hbox); have n3_ := Aside0.mk ((by rw [hg]; exact (below_size (by repeat (first | (with_reducible first | exact HB.out | apply below_alloc | apply pw_below_drewN | apply below_drew1 | refine below_set ?_ GE245.out) | exact HB.out))) : w.heap.size ≤ gb246)); have n4_ := Aside0.mk ((by rw [hg]; exact (below_size (by repeat (first | (with_reducible first | exact HB.out | apply below_alloc | apply pw_below_drewN | apply below_drew1 | refine below_set ?_ GE245.out) | exact HB.out))) : w.heap.size ≤ gb246)); have n5_ := Aside0.mk ((by rw [hg]; exact Nat.ne_of_lt (blk_lt (g := gb245) (o := .cells #[.string a0_0, .bool true] 64 (0, 0)) (by (with_reducible repeat (first | refine blk_drewN ?_ _ | refine blk_drew ?_ | refine blk_alloc ?_ _)); exact BK245.out)) : gb245 ≠ gb246)); have n6_ := Aside0.mk ((by rw [hg]; exact Nat.ne_of_gt (blk_lt (g := gb245) (o := .cells #[.string a0_0, .bool true] 64 (0, 0)) (by (with_reducible repeat (first | refine blk_drewN ?_ _ | refine blk_drew ?_ | refine blk_alloc ?_ _)); exact BK245.out)) : gb246 ≠ gb245)); clear BK245; clear HB; have BK245 := n0_; have HB := n1_; have BK246 := n2_; have GW246 := n3_; have GE246 := n4_; have NB245_246 := n5_; have NB246_245 := n6_; clear n0_ n1_ n2_ n3_ n4_ n5_ n6_; clear hb hbox hg; have hnb13 := NB245_246.out; have hnc13 := NB246_245.out; have hcz14_0 : w12.cell? ⟨gb245, 0, none⟩ = some (.string a0_0) := (blk_cell BK245.out 0).trans rfl; have hcz14_1 : w12.cell? ⟨gb245, 1, none⟩ = some (.bool true) := (blk_cell BK245.out 1).trans rfl; have hfz14_0 := blk_frozen BK245.out 0; have hfz14_1 := blk_frozen BK245.out 1))
        have n0_ := Aside0.mk (blk_drew BK245.out)
        have n1_ := Aside0.mk (blk_drew BK246.out)
        have n2_ := Aside0.mk (below_drew1 HB.out)
        clear BK245
        clear BK246
        clear HB
        have BK245 := n0_
        have BK246 := n1_
        have HB := n2_
        clear n0_ n1_ n2_
        refine start_ (n := 17) (S := fun w' => w'.cell? ⟨gb245, 0, none⟩ = some (.string a0_0) ∧ w'.cell? ⟨gb245, 1, none⟩ = some (.bool true)) (ds := []) #[false, false, false, false, false, false, false, false, false, false, false, false, false, false, false, false, false] (by kernel_rfl) rfl rfl ⟨(blk_cell BK245.out 0).trans rfl, (blk_cell BK245.out 1).trans rfl⟩ (fun hHeld => ?_); refine with_tabW impl_turn_after.tab4 impl_turn_after.bits4 (fun HT_ HW_ => ?_)
        generalize w12.drew = w15 at BK245 BK246 HB hHeld ⊢
        refine pure_ (i := 0) (N := some 8) (v := ?_) (a' := ?_) #[true, false, false, false, false, false, false, false, false, false, false, false, false, false, false, false, false] rfl rfl (any_of HT_.out (by kernel_rfl)) (fun _ _ _ h => h) (Or.inl ⟨by rfl, ?_⟩) ?_ ?_
        rotate_left; (· (intro w'; go_simp; with_reducible rfl)); rotate_left; (· (simp only [Act.put, List.setIfInBounds_toArray, List.set_cons_zero, List.set_cons_succ, i64_w, i32_w]; rfl))
        refine pure_ (i := 2) (N := some 10) (v := ?_) (a' := ?_) #[true, false, true, false, false, false, false, false, false, false, false, false, false, false, false, false, false] rfl rfl (any_of HT_.out (by kernel_rfl)) (fun _ _ _ h => h) (Or.inl ⟨by rfl, ?_⟩) ?_ ?_
        rotate_left; (· (intro w'; go_simp; with_reducible rfl)); rotate_left; (· (simp only [Act.put, List.setIfInBounds_toArray, List.set_cons_zero, List.set_cons_succ, i64_w, i32_w]; rfl))
        refine pure_ (i := 4) (N := some 12) (v := ?_) (a' := ?_) #[true, false, true, false, true, false, false, false, false, false, false, false, false, false, false, false, false] rfl rfl (any_of HT_.out (by kernel_rfl)) (fun _ _ _ h => h) (Or.inl ⟨by rfl, ?_⟩) ?_ ?_
        rotate_left; (· (intro w'; go_simp; with_reducible rfl)); rotate_left; (· (simp only [Act.put, List.setIfInBounds_toArray, List.set_cons_zero, List.set_cons_succ, i64_w, i32_w]; rfl))
        refine pure_ (i := 6) (N := some 14) (v := ?_) (a' := ?_) #[true, false, true, false, true, false, true, false, false, false, false, false, false, false, false, false, false] rfl rfl (any_of HT_.out (by kernel_rfl)) (fun _ _ _ h => h) (Or.inl ⟨by rfl, ?_⟩) ?_ ?_
        rotate_left; (· (intro w'; go_simp; with_reducible rfl)); rotate_left; (· (simp only [Act.put, List.setIfInBounds_toArray, List.set_cons_zero, List.set_cons_succ, i64_w, i32_w]; rfl))
        refine pure_ (i := 8) (N := some 16) (v := ?_) (a' := ?_) #[true, false, true, false, true, false, true, false, true, false, false, false, false, false, false, false, false] rfl rfl (any_of HT_.out (by kernel_rfl)) (fun _ _ _ h => h) (Or.inl ⟨by rfl, ?_⟩) ?_ ?_
        rotate_left; (· (intro w'; go_simp; with_reducible rfl)); rotate_left; (· (simp only [Act.put, List.setIfInBounds_toArray, List.set_cons_zero, List.set_cons_succ, i64_w, i32_w]; rfl))
        refine pure_ (i := 9) (N := some 17) (v := ?_) (a' := ?_) #[true, false, true, false, true, false, true, false, true, true, false, false, false, false, false, false, false] rfl rfl (any_of HT_.out (by kernel_rfl)) (fun _ _ _ h => h) (Or.inl ⟨by rfl, ?_⟩) ?_ ?_
        rotate_left; (· (intro w'; go_simp; with_reducible rfl)); rotate_left; (· (simp only [Act.put, List.setIfInBounds_toArray, List.set_cons_zero, List.set_cons_succ, i64_w, i32_w]; rfl))
        refine pure_ (i := 12) (N := some 20) (v := ?_) (a' := ?_) #[true, false, true, false, true, false, true, false, true, true, false, false, true, false, false, false, false] rfl rfl (any_of HT_.out (by kernel_rfl)) (fun _ _ _ h => h) (Or.inl ⟨by rfl, ?_⟩) ?_ ?_
        rotate_left; (· (intro w'; go_simp; with_reducible rfl)); rotate_left; (· (simp only [Act.put, List.setIfInBounds_toArray, List.set_cons_zero, List.set_cons_succ, i64_w, i32_w]; rfl))
        refine take_ (i := 1) (N := some 9) (v := ?_) (a' := ?_) #[true, true, true, false, true, false, true, false, true, true, false, false, true, false, false, false, false] rfl rfl (take_ofW HT_.out HW_.out (by kernel_rfl)) (fun _ _ _ h => h) (Or.inl ⟨by rfl, ?_⟩) hHeld ?_ ?_
        rotate_left; (· (rintro w' ⟨s0, s1⟩; go_simp; with_reducible rfl)); rotate_left; (· (simp only [Act.put, List.setIfInBounds_toArray, List.set_cons_zero, List.set_cons_succ, i64_w, i32_w]; rfl))
        refine pure_ (i := 3) (N := some 11) (v := ?_) (a' := ?_) #[true, true, true, true, true, false, true, false, true, true, false, false, true, false, false, false, false] rfl rfl (any_of HT_.out (by kernel_rfl)) (fun _ _ _ h => h) (Or.inl ⟨by rfl, ?_⟩) ?_ ?_
        rotate_left; (· (intro w'; go_simp; with_reducible rfl)); rotate_left; (· (simp only [Act.put, List.setIfInBounds_toArray, List.set_cons_zero, List.set_cons_succ, i64_w, i32_w]; rfl))
        refine pure_ (i := 5) (N := some 13) (v := ?_) (a' := ?_) #[true, true, true, true, true, true, true, false, true, true, false, false, true, false, false, false, false] rfl rfl (any_of HT_.out (by kernel_rfl)) (fun _ _ _ h => h) (Or.inl ⟨by rfl, ?_⟩) ?_ ?_
        rotate_left; (· (intro w'; go_simp; with_reducible rfl)); rotate_left; (· (simp only [Act.put, List.setIfInBounds_toArray, List.set_cons_zero, List.set_cons_succ, i64_w, i32_w]; rfl))
        refine take_ (i := 7) (N := some 15) (v := ?_) (a' := ?_) #[true, true, true, true, true, true, true, true, true, true, false, false, true, false, false, false, false] rfl rfl (take_ofW HT_.out HW_.out (by kernel_rfl)) (fun _ _ _ h => h) (Or.inl ⟨by rfl, ?_⟩) hHeld ?_ ?_
        rotate_left; (· (rintro w' ⟨s0, s1⟩; go_simp; with_reducible rfl)); rotate_left; (· (simp only [Act.put, List.setIfInBounds_toArray, List.set_cons_zero, List.set_cons_succ, i64_w, i32_w]; rfl))
        refine pure_ (i := 10) (N := some 18) (v := ?_) (a' := ?_) #[true, true, true, true, true, true, true, true, true, true, true, false, true, false, false, false, false] rfl rfl (any_of HT_.out (by kernel_rfl)) (fun _ _ _ h => h) (Or.inl ⟨by rfl, ?_⟩) ?_ ?_
        rotate_left; (· (intro w'; go_simp; with_reducible rfl)); rotate_left; (· (simp only [Act.put, List.setIfInBounds_toArray, List.set_cons_zero, List.set_cons_succ, i64_w, i32_w]; rfl))
        refine pure_ (i := 11) (N := some 19) (v := ?_) (a' := ?_) #[true, true, true, true, true, true, true, true, true, true, true, true, true, false, false, false, false] rfl rfl (any_of HT_.out (by kernel_rfl)) (fun _ _ _ h => h) (Or.inl ⟨by rfl, ?_⟩) ?_ ?_
        rotate_left; (· (intro w'; go_simp; with_reducible rfl)); rotate_left; (· (simp only [Act.put, List.setIfInBounds_toArray, List.set_cons_zero, List.set_cons_succ, i64_w, i32_w]; rfl))
        refine take_ (i := 13) (N := some 21) (v := ?_) (a' := ?_) #[true, true, true, true, true, true, true, true, true, true, true, true, true, true, false, false, false] rfl rfl (take_ofW HT_.out HW_.out (by kernel_rfl)) (fun _ _ _ h => h) (Or.inl ⟨by rfl, ?_⟩) hHeld ?_ ?_
        rotate_left; (· (rintro w' ⟨s0, s1⟩; go_simp; with_reducible rfl)); rotate_left; (· (simp only [Act.put, List.setIfInBounds_toArray, List.set_cons_zero, List.set_cons_succ, i64_w, i32_w]; rfl))
        refine pure_ (i := 14) (N := some 22) (v := ?_) (a' := ?_) #[true, true, true, true, true, true, true, true, true, true, true, true, true, true, true, false, false] rfl rfl (any_of HT_.out (by kernel_rfl)) (fun _ _ _ h => h) (Or.inl ⟨by rfl, ?_⟩) ?_ ?_
        rotate_left; (· (intro w'; go_simp; with_reducible rfl)); rotate_left; (· (simp only [Act.put, List.setIfInBounds_toArray, List.set_cons_zero, List.set_cons_succ, i64_w, i32_w]; rfl))
        refine pure_ (i := 15) (N := some 23) (v := ?_) (a' := ?_) #[true, true, true, true, true, true, true, true, true, true, true, true, true, true, true, true, false] rfl rfl (any_of HT_.out (by kernel_rfl)) (fun _ _ _ h => h) (Or.inl ⟨by rfl, ?_⟩) ?_ ?_
        rotate_left; (· (intro w'; go_simp; with_reducible rfl)); rotate_left; (· (simp only [Act.put, List.setIfInBounds_toArray, List.set_cons_zero, List.set_cons_succ, i64_w, i32_w]; rfl))
        refine one_ (i := 16) (N := none) #[true, true, true, true, true, true, true, true, true, true, true, true, true, true, true, true, true] rfl rfl (one_of HT_.out (by kernel_rfl)) (by decide) (fun K hK => ?_)
        have hs16 : w15.cell? ⟨gb246, 0, none⟩ = some (.string (⟨#[]⟩ : ByteArray)) := (blk_cell BK246.out 0).trans rfl
        have hfs16 := blk_frozen BK246.out 0
        have hns16_0 := NB245_246.out
        have hms16_0 := NB246_245.out
        have hs17 : w15.cell? ⟨gb246, 1, none⟩ = some (.bool false) := (blk_cell BK246.out 1).trans rfl
        have hfs17 := blk_frozen BK246.out 1
        have hns17_0 := NB245_246.out
        have hms17_0 := NB246_245.out
        refine skip_ (w1 := ?_) (by rfl) rfl ?_ ?_
        rotate_left
        ·go_simp
         rfl
        refine hK.out _ _ ⟨((cell_far (p := ⟨gb246, _, none⟩) NB245_246.out _).trans (((cell_far (p := ⟨gb246, _, none⟩) NB245_246.out _).trans (hHeld.1)))), ((cell_far (p := ⟨gb246, _, none⟩) NB245_246.out _).trans (((cell_far (p := ⟨gb246, _, none⟩) NB245_246.out _).trans (hHeld.2))))⟩ (fun hHeld => ?_)
        clear hK K
        refine done_ (done_of HT_.out (by kernel_rfl)) ?_
        try go_wp2
        refine bodyPost_ret (results_cell_row rfl _ _ gb246 64 #[.string (((a0_0.extract 0 (a1 : Int).toNat) ++ (⟨#[115]⟩ : ByteArray)) ++ (a0_0.extract ((ji7) : Int).toNat a0_0.size)), .bool (!true)] (0, 0) _ rfl (by (with_reducible repeat (first | refine blk_drewN ?_ _ | refine blk_drew ?_ | refine blk_alloc ?_ _)); refine blk_put (cs := #[.string (((a0_0.extract 0 (a1 : Int).toNat) ++ (⟨#[115]⟩ : ByteArray)) ++ (a0_0.extract ((ji7) : Int).toNat a0_0.size)), .bool false]) ?_ 1 _ rfl; (with_reducible repeat (first | refine blk_drewN ?_ _ | refine blk_drew ?_ | refine blk_alloc ?_ _)); refine blk_put (cs := #[.string (⟨#[]⟩ : ByteArray), .bool false]) ?_ 0 _ rfl; (with_reducible repeat (first | refine blk_drewN ?_ _ | refine blk_drew ?_ | refine blk_alloc ?_ _)); exact BK246.out) Tryd.underlying64 rfl (by kernel_rfl)) rfl ?_
        exact ⟨by first | rfl | (simp [errW_none, errW_some] <;> rfl) | (simp only [← hji7]; first | rfl | (simp [errW_none, errW_some] <;> rfl)) | (simp [*, errW_none, errW_some] <;> rfl), by repeat (first | (with_reducible first | exact HB.out | apply below_alloc | apply pw_below_drewN | apply below_drew1 | refine below_set ?_ GE245.out | refine below_set ?_ GE246.out) | exact HB.out)⟩
       ·rw [if_neg c10] at H
        exact absurd H (by simp)
      ·rw [if_neg c9] at H
       exact absurd H (by simp)
     ·rw [if_neg c8] at H
      exact absurd H (by simp)
    ·rw [if_neg c6] at H
     exact absurd H (by simp)
   ·rw [if_neg c5] at H
    exact absurd H (by simp)
  ·rw [if_neg c4] at H
   exact absurd H (by simp)
 ·replace c3 := Bool.eq_false_iff.mpr c3
  subst c3
  have H1 : (if 0 ≤ a1 then (if a1 ≤ (a0_0.size : Int) then (if (a0_0.extract 0 (a1 : Int).toNat).size + 1 ≤ 9223372036854775807 then (if 0 ≤ (wrap64 (a1 + 1)) then (if (wrap64 (a1 + 1)) ≤ (a0_0.size : Int) then (if ((a0_0.extract 0 (a1 : Int).toNat) ++ (⟨#[99]⟩ : ByteArray)).size + (a0_0.extract ((wrap64 (a1 + 1)) : Int).toNat a0_0.size).size ≤ 9223372036854775807 then (some (((a0_0.extract 0 (a1 : Int).toNat) ++ (⟨#[99]⟩ : ByteArray)) ++ (a0_0.extract ((wrap64 (a1 + 1)) : Int).toNat a0_0.size), !false)) else (none)) else (none)) else (none)) else (none)) else (none)) else (none)) = some (r1, r2) := by rw [if_neg (show ¬ (false = true) by decide)] at H; exact H
  clear H
  have H := H1
  clear H1
  by_cases c18 : 0 ≤ a1
  ·rw [if_pos c18] at H
   have c18b0 := eq_true c18
   have c18b1 : decide (0 ≤ a1) = true := decide_eq_true c18
   clear c18
   by_cases c19 : a1 ≤ (a0_0.size : Int)
   ·rw [if_pos c19] at H
    have c19b0 := eq_true c19
    have c19b1 : decide (a1 ≤ (a0_0.size : Int)) = true := decide_eq_true c19
    clear c19
    by_cases c20 : (a0_0.extract 0 (a1 : Int).toNat).size + 1 ≤ 9223372036854775807
    ·rw [if_pos c20] at H
     have c20b0 := eq_true c20
     have c20b1 : decide ((a0_0.extract 0 (a1 : Int).toNat).size + 1 ≤ 9223372036854775807) = true := decide_eq_true c20
     try have c20b2 : (9223372036854775807 < (a0_0.extract 0 (a1 : Int).toNat).size + 1) = False := eq_false (Nat.not_lt.2 c20)
     have zc0 : a1.toNat + 1 ≤ 9223372036854775807 := (by have h_ := c20; rw [ByteArray.size_extract] at h_; have g_ : a1 ≤ (a0_0.size : Int) := of_decide_eq_true ‹decide (a1 ≤ (a0_0.size : Int)) = true›; omega)
     have zcc20 : (9223372036854775807 < a1.toNat + 1) = False := eq_false (by omega)
     clear zc0
     obtain ⟨ji21, hji21⟩ : ∃ j_ : Int, (wrap64 (a1 + 1)) = j_ := ⟨_, rfl⟩
     replace H : (if 0 ≤ (ji21) then (if (ji21) ≤ (a0_0.size : Int) then (if ((a0_0.extract 0 (a1 : Int).toNat) ++ (⟨#[99]⟩ : ByteArray)).size + (a0_0.extract ((ji21) : Int).toNat a0_0.size).size ≤ 9223372036854775807 then (some (((a0_0.extract 0 (a1 : Int).toNat) ++ (⟨#[99]⟩ : ByteArray)) ++ (a0_0.extract ((ji21) : Int).toNat a0_0.size), !false)) else (none)) else (none)) else (none)) = some (r1, r2) := by first | (rw [hji21] at H; exact H) | (simp only [hji21] at H ⊢; exact H)
     have hji21w : (IntKind.i64.wrap (a1 + 1)) = ji21 := (i64_w _).trans hji21
     by_cases c22 : 0 ≤ (ji21)
     ·rw [if_pos c22] at H
      have c22b0 := eq_true c22
      have c22b1 : decide (0 ≤ (ji21)) = true := decide_eq_true c22
      clear c22
      by_cases c23 : (ji21) ≤ (a0_0.size : Int)
      ·rw [if_pos c23] at H
       have c23b0 := eq_true c23
       have c23b1 : decide ((ji21) ≤ (a0_0.size : Int)) = true := decide_eq_true c23
       clear c23
       by_cases c24 : ((a0_0.extract 0 (a1 : Int).toNat) ++ (⟨#[99]⟩ : ByteArray)).size + (a0_0.extract ((ji21) : Int).toNat a0_0.size).size ≤ 9223372036854775807
       ·rw [if_pos c24] at H
        have c24b0 := eq_true c24
        have c24b1 : decide (((a0_0.extract 0 (a1 : Int).toNat) ++ (⟨#[99]⟩ : ByteArray)).size + (a0_0.extract ((ji21) : Int).toNat a0_0.size).size ≤ 9223372036854775807) = true := decide_eq_true c24
        try have c24b2 : (9223372036854775807 < ((a0_0.extract 0 (a1 : Int).toNat) ++ (⟨#[99]⟩ : ByteArray)).size + (a0_0.extract ((ji21) : Int).toNat a0_0.size).size) = False := eq_false (Nat.not_lt.2 c24)
        have zc0 : a1.toNat + 1 + (a0_0.size - ji21.toNat) ≤ 9223372036854775807 := (by have h_ := c24; have e_ : (⟨#[99]⟩ : ByteArray).size = 1 := rfl; rw [ByteArray.size_append, ByteArray.size_extract, ByteArray.size_extract, e_] at h_; have g_ : a1 ≤ (a0_0.size : Int) := of_decide_eq_true ‹decide (a1 ≤ (a0_0.size : Int)) = true›; omega)
        have zcc24 : (9223372036854775807 < a1.toNat + 1 + (a0_0.size - ji21.toNat)) = False := eq_false (by omega)
        clear zc0
        simp only [Option.some.injEq, Prod.mk.injEq] at H
        obtain ⟨rfl, rfl⟩ := H
        go_enter Tryd.func48, Tryd.ntmps48
        try go_wp2_with (first | ((with_reducible refine gate_dst (N := 2) rfl ?_); refine box_event ?hg (N := 2) ?hd (cs := #[.string a0_0, .bool false]) (t := 64) ?hr ?_; (case hd => rfl); (case hg => rfl); (case hr => first | (go_simp; done) | (go_simp; rfl)); intro gb245 hg w25 hbox hb; have n0_ := Aside0.mk (below_step hb_ hb); have n1_ := Aside0.mk (hbox); have n2_ := Aside0.mk ((by rw [hg]; exact (below_size hb_) : w.heap.size ≤ gb245)); have n3_ := Aside0.mk ((by rw [hg]; exact (below_size hb_) : w.heap.size ≤ gb245)); clear HB; have HB := n0_; have BK245 := n1_; have GW245 := n2_; have GE245 := n3_; clear n0_ n1_ n2_ n3_; clear hb hbox hg) | ((with_reducible refine gate_dst (N := 4) rfl ?_); refine box_event ?hg (N := 4) ?hd (cs := #[.string (⟨#[]⟩ : ByteArray), .bool false]) (t := 64) ?hr ?_; (case hd => rfl); (case hg => rfl); (case hr => first | (go_simp; done) | (go_simp; rfl)); intro gb246 hg w26 hbox hb; have n0_ := Aside0.mk (blk_below (g := gb245) (o := .cells #[.string a0_0, .bool false] 64 (0, 0)) (by (with_reducible repeat (first | refine blk_drewN ?_ _ | refine blk_drew ?_ | refine blk_alloc ?_ _)); exact BK245.out) hb); have n1_ := Aside0.mk (below_step (by repeat (first | (with_reducible first | exact HB.out | apply below_alloc | apply pw_below_drewN | apply below_drew1 | refine below_set ?_ GE245.out) | exact HB.out)) hb); have n2_ := Aside0.mk (hbox); have n3_ := Aside0.mk ((by rw [hg]; exact (below_size (by repeat (first | (with_reducible first | exact HB.out | apply below_alloc | apply pw_below_drewN | apply below_drew1 | refine below_set ?_ GE245.out) | exact HB.out))) : w.heap.size ≤ gb246)); have n4_ := Aside0.mk ((by rw [hg]; exact (below_size (by repeat (first | (with_reducible first | exact HB.out | apply below_alloc | apply pw_below_drewN | apply below_drew1 | refine below_set ?_ GE245.out) | exact HB.out))) : w.heap.size ≤ gb246)); have n5_ := Aside0.mk ((by rw [hg]; exact Nat.ne_of_lt (blk_lt (g := gb245) (o := .cells #[.string a0_0, .bool false] 64 (0, 0)) (by (with_reducible repeat (first | refine blk_drewN ?_ _ | refine blk_drew ?_ | refine blk_alloc ?_ _)); exact BK245.out)) : gb245 ≠ gb246)); have n6_ := Aside0.mk ((by rw [hg]; exact Nat.ne_of_gt (blk_lt (g := gb245) (o := .cells #[.string a0_0, .bool false] 64 (0, 0)) (by (with_reducible repeat (first | refine blk_drewN ?_ _ | refine blk_drew ?_ | refine blk_alloc ?_ _)); exact BK245.out)) : gb246 ≠ gb245)); clear BK245; clear HB; have BK245 := n0_; have HB := n1_; have BK246 := n2_; have GW246 := n3_; have GE246 := n4_; have NB245_246 := n5_; have NB246_245 := n6_; clear n0_ n1_ n2_ n3_ n4_ n5_ n6_; clear hb hbox hg; have hnb27 := NB245_246.out; have hnc27 := NB246_245.out; have hcz28_0 : w26.cell? ⟨gb245, 0, none⟩ = some (.string a0_0) := (blk_cell BK245.out 0).trans rfl; have hcz28_1 : w26.cell? ⟨gb245, 1, none⟩ = some (.bool false) := (blk_cell BK245.out 1).trans rfl; have hfz28_0 := blk_frozen BK245.out 0; have hfz28_1 := blk_frozen BK245.out 1))
        have n0_ := Aside0.mk (blk_drew BK245.out)
        have n1_ := Aside0.mk (blk_drew BK246.out)
        have n2_ := Aside0.mk (below_drew1 HB.out)
        clear BK245
        clear BK246
        clear HB
        have BK245 := n0_
        have BK246 := n1_
        have HB := n2_
        clear n0_ n1_ n2_
        refine start_ (n := 17) (S := fun w' => w'.cell? ⟨gb245, 0, none⟩ = some (.string a0_0) ∧ w'.cell? ⟨gb245, 1, none⟩ = some (.bool false)) (ds := []) #[false, false, false, false, false, false, false, false, false, false, false, false, false, false, false, false, false] (by kernel_rfl) rfl rfl ⟨(blk_cell BK245.out 0).trans rfl, (blk_cell BK245.out 1).trans rfl⟩ (fun hHeld => ?_); refine with_tabW impl_turn_after.tab4 impl_turn_after.bits4 (fun HT_ HW_ => ?_)
        generalize w26.drew = w29 at BK245 BK246 HB hHeld ⊢
        refine pure_ (i := 0) (N := some 8) (v := ?_) (a' := ?_) #[true, false, false, false, false, false, false, false, false, false, false, false, false, false, false, false, false] rfl rfl (any_of HT_.out (by kernel_rfl)) (fun _ _ _ h => h) (Or.inl ⟨by rfl, ?_⟩) ?_ ?_
        rotate_left; (· (intro w'; go_simp; with_reducible rfl)); rotate_left; (· (simp only [Act.put, List.setIfInBounds_toArray, List.set_cons_zero, List.set_cons_succ, i64_w, i32_w]; rfl))
        refine pure_ (i := 2) (N := some 10) (v := ?_) (a' := ?_) #[true, false, true, false, false, false, false, false, false, false, false, false, false, false, false, false, false] rfl rfl (any_of HT_.out (by kernel_rfl)) (fun _ _ _ h => h) (Or.inl ⟨by rfl, ?_⟩) ?_ ?_
        rotate_left; (· (intro w'; go_simp; with_reducible rfl)); rotate_left; (· (simp only [Act.put, List.setIfInBounds_toArray, List.set_cons_zero, List.set_cons_succ, i64_w, i32_w]; rfl))
        refine pure_ (i := 4) (N := some 12) (v := ?_) (a' := ?_) #[true, false, true, false, true, false, false, false, false, false, false, false, false, false, false, false, false] rfl rfl (any_of HT_.out (by kernel_rfl)) (fun _ _ _ h => h) (Or.inl ⟨by rfl, ?_⟩) ?_ ?_
        rotate_left; (· (intro w'; go_simp; with_reducible rfl)); rotate_left; (· (simp only [Act.put, List.setIfInBounds_toArray, List.set_cons_zero, List.set_cons_succ, i64_w, i32_w]; rfl))
        refine pure_ (i := 6) (N := some 14) (v := ?_) (a' := ?_) #[true, false, true, false, true, false, true, false, false, false, false, false, false, false, false, false, false] rfl rfl (any_of HT_.out (by kernel_rfl)) (fun _ _ _ h => h) (Or.inl ⟨by rfl, ?_⟩) ?_ ?_
        rotate_left; (· (intro w'; go_simp; with_reducible rfl)); rotate_left; (· (simp only [Act.put, List.setIfInBounds_toArray, List.set_cons_zero, List.set_cons_succ, i64_w, i32_w]; rfl))
        refine pure_ (i := 8) (N := some 16) (v := ?_) (a' := ?_) #[true, false, true, false, true, false, true, false, true, false, false, false, false, false, false, false, false] rfl rfl (any_of HT_.out (by kernel_rfl)) (fun _ _ _ h => h) (Or.inl ⟨by rfl, ?_⟩) ?_ ?_
        rotate_left; (· (intro w'; go_simp; with_reducible rfl)); rotate_left; (· (simp only [Act.put, List.setIfInBounds_toArray, List.set_cons_zero, List.set_cons_succ, i64_w, i32_w]; rfl))
        refine pure_ (i := 9) (N := some 17) (v := ?_) (a' := ?_) #[true, false, true, false, true, false, true, false, true, true, false, false, false, false, false, false, false] rfl rfl (any_of HT_.out (by kernel_rfl)) (fun _ _ _ h => h) (Or.inl ⟨by rfl, ?_⟩) ?_ ?_
        rotate_left; (· (intro w'; go_simp; with_reducible rfl)); rotate_left; (· (simp only [Act.put, List.setIfInBounds_toArray, List.set_cons_zero, List.set_cons_succ, i64_w, i32_w]; rfl))
        refine pure_ (i := 12) (N := some 20) (v := ?_) (a' := ?_) #[true, false, true, false, true, false, true, false, true, true, false, false, true, false, false, false, false] rfl rfl (any_of HT_.out (by kernel_rfl)) (fun _ _ _ h => h) (Or.inl ⟨by rfl, ?_⟩) ?_ ?_
        rotate_left; (· (intro w'; go_simp; with_reducible rfl)); rotate_left; (· (simp only [Act.put, List.setIfInBounds_toArray, List.set_cons_zero, List.set_cons_succ, i64_w, i32_w]; rfl))
        refine take_ (i := 1) (N := some 9) (v := ?_) (a' := ?_) #[true, true, true, false, true, false, true, false, true, true, false, false, true, false, false, false, false] rfl rfl (take_ofW HT_.out HW_.out (by kernel_rfl)) (fun _ _ _ h => h) (Or.inl ⟨by rfl, ?_⟩) hHeld ?_ ?_
        rotate_left; (· (rintro w' ⟨s0, s1⟩; go_simp; with_reducible rfl)); rotate_left; (· (simp only [Act.put, List.setIfInBounds_toArray, List.set_cons_zero, List.set_cons_succ, i64_w, i32_w]; rfl))
        refine pure_ (i := 3) (N := some 11) (v := ?_) (a' := ?_) #[true, true, true, true, true, false, true, false, true, true, false, false, true, false, false, false, false] rfl rfl (any_of HT_.out (by kernel_rfl)) (fun _ _ _ h => h) (Or.inl ⟨by rfl, ?_⟩) ?_ ?_
        rotate_left; (· (intro w'; go_simp; with_reducible rfl)); rotate_left; (· (simp only [Act.put, List.setIfInBounds_toArray, List.set_cons_zero, List.set_cons_succ, i64_w, i32_w]; rfl))
        refine pure_ (i := 5) (N := some 13) (v := ?_) (a' := ?_) #[true, true, true, true, true, true, true, false, true, true, false, false, true, false, false, false, false] rfl rfl (any_of HT_.out (by kernel_rfl)) (fun _ _ _ h => h) (Or.inl ⟨by rfl, ?_⟩) ?_ ?_
        rotate_left; (· (intro w'; go_simp; with_reducible rfl)); rotate_left; (· (simp only [Act.put, List.setIfInBounds_toArray, List.set_cons_zero, List.set_cons_succ, i64_w, i32_w]; rfl))
        refine take_ (i := 7) (N := some 15) (v := ?_) (a' := ?_) #[true, true, true, true, true, true, true, true, true, true, false, false, true, false, false, false, false] rfl rfl (take_ofW HT_.out HW_.out (by kernel_rfl)) (fun _ _ _ h => h) (Or.inl ⟨by rfl, ?_⟩) hHeld ?_ ?_
        rotate_left; (· (rintro w' ⟨s0, s1⟩; go_simp; with_reducible rfl)); rotate_left; (· (simp only [Act.put, List.setIfInBounds_toArray, List.set_cons_zero, List.set_cons_succ, i64_w, i32_w]; rfl))
        refine pure_ (i := 10) (N := some 18) (v := ?_) (a' := ?_) #[true, true, true, true, true, true, true, true, true, true, true, false, true, false, false, false, false] rfl rfl (any_of HT_.out (by kernel_rfl)) (fun _ _ _ h => h) (Or.inl ⟨by rfl, ?_⟩) ?_ ?_
        rotate_left; (· (intro w'; go_simp; with_reducible rfl)); rotate_left; (· (simp only [Act.put, List.setIfInBounds_toArray, List.set_cons_zero, List.set_cons_succ, i64_w, i32_w]; rfl))
        refine pure_ (i := 11) (N := some 19) (v := ?_) (a' := ?_) #[true, true, true, true, true, true, true, true, true, true, true, true, true, false, false, false, false] rfl rfl (any_of HT_.out (by kernel_rfl)) (fun _ _ _ h => h) (Or.inl ⟨by rfl, ?_⟩) ?_ ?_
        rotate_left; (· (intro w'; go_simp; with_reducible rfl)); rotate_left; (· (simp only [Act.put, List.setIfInBounds_toArray, List.set_cons_zero, List.set_cons_succ, i64_w, i32_w]; rfl))
        refine take_ (i := 13) (N := some 21) (v := ?_) (a' := ?_) #[true, true, true, true, true, true, true, true, true, true, true, true, true, true, false, false, false] rfl rfl (take_ofW HT_.out HW_.out (by kernel_rfl)) (fun _ _ _ h => h) (Or.inl ⟨by rfl, ?_⟩) hHeld ?_ ?_
        rotate_left; (· (rintro w' ⟨s0, s1⟩; go_simp; with_reducible rfl)); rotate_left; (· (simp only [Act.put, List.setIfInBounds_toArray, List.set_cons_zero, List.set_cons_succ, i64_w, i32_w]; rfl))
        refine pure_ (i := 14) (N := some 22) (v := ?_) (a' := ?_) #[true, true, true, true, true, true, true, true, true, true, true, true, true, true, true, false, false] rfl rfl (any_of HT_.out (by kernel_rfl)) (fun _ _ _ h => h) (Or.inl ⟨by rfl, ?_⟩) ?_ ?_
        rotate_left; (· (intro w'; go_simp; with_reducible rfl)); rotate_left; (· (simp only [Act.put, List.setIfInBounds_toArray, List.set_cons_zero, List.set_cons_succ, i64_w, i32_w]; rfl))
        refine pure_ (i := 15) (N := some 23) (v := ?_) (a' := ?_) #[true, true, true, true, true, true, true, true, true, true, true, true, true, true, true, true, false] rfl rfl (any_of HT_.out (by kernel_rfl)) (fun _ _ _ h => h) (Or.inl ⟨by rfl, ?_⟩) ?_ ?_
        rotate_left; (· (intro w'; go_simp; with_reducible rfl)); rotate_left; (· (simp only [Act.put, List.setIfInBounds_toArray, List.set_cons_zero, List.set_cons_succ, i64_w, i32_w]; rfl))
        refine one_ (i := 16) (N := none) #[true, true, true, true, true, true, true, true, true, true, true, true, true, true, true, true, true] rfl rfl (one_of HT_.out (by kernel_rfl)) (by decide) (fun K hK => ?_)
        have hs30 : w29.cell? ⟨gb246, 0, none⟩ = some (.string (⟨#[]⟩ : ByteArray)) := (blk_cell BK246.out 0).trans rfl
        have hfs30 := blk_frozen BK246.out 0
        have hns30_0 := NB245_246.out
        have hms30_0 := NB246_245.out
        have hs31 : w29.cell? ⟨gb246, 1, none⟩ = some (.bool false) := (blk_cell BK246.out 1).trans rfl
        have hfs31 := blk_frozen BK246.out 1
        have hns31_0 := NB245_246.out
        have hms31_0 := NB246_245.out
        refine skip_ (w1 := ?_) (by rfl) rfl ?_ ?_
        rotate_left
        ·go_simp
         rfl
        refine hK.out _ _ ⟨((cell_far (p := ⟨gb246, _, none⟩) NB245_246.out _).trans (((cell_far (p := ⟨gb246, _, none⟩) NB245_246.out _).trans (hHeld.1)))), ((cell_far (p := ⟨gb246, _, none⟩) NB245_246.out _).trans (((cell_far (p := ⟨gb246, _, none⟩) NB245_246.out _).trans (hHeld.2))))⟩ (fun hHeld => ?_)
        clear hK K
        refine done_ (done_of HT_.out (by kernel_rfl)) ?_
        try go_wp2
        refine bodyPost_ret (results_cell_row rfl _ _ gb246 64 #[.string (((a0_0.extract 0 (a1 : Int).toNat) ++ (⟨#[99]⟩ : ByteArray)) ++ (a0_0.extract ((ji21) : Int).toNat a0_0.size)), .bool (!false)] (0, 0) _ rfl (by (with_reducible repeat (first | refine blk_drewN ?_ _ | refine blk_drew ?_ | refine blk_alloc ?_ _)); refine blk_put (cs := #[.string (((a0_0.extract 0 (a1 : Int).toNat) ++ (⟨#[99]⟩ : ByteArray)) ++ (a0_0.extract ((ji21) : Int).toNat a0_0.size)), .bool false]) ?_ 1 _ rfl; (with_reducible repeat (first | refine blk_drewN ?_ _ | refine blk_drew ?_ | refine blk_alloc ?_ _)); refine blk_put (cs := #[.string (⟨#[]⟩ : ByteArray), .bool false]) ?_ 0 _ rfl; (with_reducible repeat (first | refine blk_drewN ?_ _ | refine blk_drew ?_ | refine blk_alloc ?_ _)); exact BK246.out) Tryd.underlying64 rfl (by kernel_rfl)) rfl ?_
        exact ⟨by first | rfl | (simp [errW_none, errW_some] <;> rfl) | (simp only [← hji21]; first | rfl | (simp [errW_none, errW_some] <;> rfl)) | (simp [*, errW_none, errW_some] <;> rfl), by repeat (first | (with_reducible first | exact HB.out | apply below_alloc | apply pw_below_drewN | apply below_drew1 | refine below_set ?_ GE245.out | refine below_set ?_ GE246.out) | exact HB.out)⟩
       ·rw [if_neg c24] at H
        exact absurd H (by simp)
      ·rw [if_neg c23] at H
       exact absurd H (by simp)
     ·rw [if_neg c22] at H
      exact absurd H (by simp)
    ·rw [if_neg c20] at H
     exact absurd H (by simp)
   ·rw [if_neg c19] at H
    exact absurd H (by simp)
  ·rw [if_neg c18] at H
   exact absurd H (by simp)
/-! ### impl_turn_open: function 49 -/
-- EXTERNAL: by hand
-- impl_chosen impl_Net_reached
def impl_turn_open.f (a0_0 : ByteArray) (a0_1 : Bool) : Option (List Int) := if a0_0.size ≤ 17592186044416 then some (freeV a0_0) else none
set_option maxHeartbeats 2000000 in
set_option maxRecDepth 100000 in
theorem openPred (g : Nat) (b : Bool) (s : ByteArray) (w : World) (hbox : w.heap[g]? = some (.cells #[.string s, .bool b] 64 (0, 0))) :
    PredD Tryd.prog 71 #[.pointer (some ⟨g, 0, none⟩)] (Kd.int .i64) (fun x => 0 ≤ x ∧ x < (s.size : Int)) (fun x => bt s x == 46) w := by
  intro W x v hq hK hb
  obtain ⟨h0, h1⟩ := hq
  obtain rfl : v = .int .i64 x := by simpa [Kd.int, Kd.scalar] using hK
  show Calls Tryd.prog 71 #[.int .i64 x, .pointer (some ⟨g, 0, none⟩)] W _
  have hc0 : W.cell? ⟨g, 0, none⟩ = some (.string s) := (blk_cell (blk_below hbox hb) 0).trans rfl
  have hx := bt_at s x
  have p := eq_true h0
  have q := eq_true h1
  clear hbox hb hK h0 h1
  go_enter Tryd.func71, Tryd.ntmps71
  go_wp2
  go_ret
  exact ⟨rfl, Drawn0.refl _⟩
set_option maxHeartbeats 4000000 in
set_option maxRecDepth 100000 in
theorem impl_turn_open.calls (a0_0 : ByteArray) (a0_1 : Bool) (r : List Int) (w : World) (h : impl_turn_open.f a0_0 a0_1 = some r) :
    Calls Tryd.prog 49 #[.agg #[.string a0_0, .bool a0_1]] w fun e w' => ∃ v0_ : Value, e = .returned v0_ ∧ Kd.R (Kd.int .i64) 2 w' w.heap.size (fun _ => True) v0_ r ∧ Below w.heap.size w w' := by
  unfold impl_turn_open.f at h
  by_cases hv : a0_0.size ≤ 17592186044416
  case neg => rw [if_neg hv] at h; cases h
  rw [if_pos hv] at h
  obtain rfl := Option.some.inj h
  clear h
  have eg1 : ∀ args w, (callFunc 71 args).run Tryd.prog w = .ok (.enter 71 args) w := enters_of Tryd.func71 (by kernel_rfl) rfl
  have HB := Aside0.mk (Below.refl w.heap.size w)
  have HS := Aside0.mk hv
  have hu := Tryd.underlying64
  clear hv
  go_enter Tryd.func49, Tryd.ntmps49
  go_wp2_with (first | ((with_reducible refine gate_dst (N := 1) rfl ?_); refine box_event ?hg (N := 1) ?hd (cs := #[.string a0_0, .bool a0_1]) (t := 64) ?hr ?_; (case hd => rfl); (case hg => rfl); (case hr => first | (go_simp; done) | (go_simp; rfl)); intro g1 hg_ w_ hbox hb; have HX1 := Aside0.mk hbox; have HG1 := Aside0.mk (show w.heap.size ≤ g1 by have := below_size HB.out; omega); clear hbox hg_; have nHB_ := Aside0.mk (below_step HB.out hb); clear HB hb; have HB := nHB_; clear nHB_; have hc10 := (blk_cell HX1.out 0).trans rfl; have hc11 := (blk_cell HX1.out 1).trans rfl) | (go_at_call 70; refine (impl_chosen.calls 71 #[.pointer (some ⟨g1, 0, none⟩)] _ (fun x => bt a0_0 x == 46) eg1 (a0_0.size : Int) _ (PredD.toK (openPred g1 a0_1 a0_0 _ HX1.out)) (fun x h0 h1 => ⟨h0, h1⟩) (by have := HS.out; omega)).mono ?_; rintro e w_ ⟨v_, rfl, ho, hb⟩; have HO := Aside0.mk (Kd.R_lower ho (below_size HB.out)); have nHB_ := Aside0.mk (below_step HB.out hb); clear HB hb ho; have HB := nHB_; clear nHB_))
  go_ret
  exact ⟨_, rfl, by have := HO.out; rw [Int.toNat_natCast] at this; exact this, HB.out⟩
/-! ### impl_bit: function 65 -/
def impl_bit.f (a0 : Bool) : Option (Int) := if a0 = true then (some 1) else (some 0)
set_option maxHeartbeats 8000000 in
set_option maxRecDepth 100000 in
theorem impl_bit.calls (a0 : Bool) (r : Int) (w : World) (h : impl_bit.f a0 = some r) :
  Calls Tryd.prog 65 #[.bool a0] w fun e w' => e = .returned (.int .i64 r) ∧ Drawn0 w w' := by
 have H : (if a0 = true then (some 1) else (some 0)) = some r := h
 clear h
 by_cases c2 : a0 = true
 ·subst c2
  have H1 : (some 1) = some r := by rw [if_pos rfl] at H; exact H
  clear H
  have H := H1
  clear H1
  obtain rfl := Option.some.inj H
  go_enter Tryd.func65, Tryd.ntmps65
  go_wp2
  go_ret
  exact ⟨by first | rfl | (simp; done) | (simp [*]; done), by repeat (first | exact Drawn0.refl _ | apply Drawn0.step)⟩
 ·replace c2 := Bool.eq_false_iff.mpr c2
  subst c2
  have H1 : (some 0) = some r := by rw [if_neg (show ¬ (false = true) by decide)] at H; exact H
  clear H
  have H := H1
  clear H1
  obtain rfl := Option.some.inj H
  go_enter Tryd.func65, Tryd.ntmps65
  go_wp2
  go_ret
  exact ⟨by first | rfl | (simp; done) | (simp [*]; done), by repeat (first | exact Drawn0.refl _ | apply Drawn0.step)⟩
/-! ### slices_IndexFunc_int64_int64_88: function 88 -/
-- EXTERNAL: by hand
set_option maxHeartbeats 4000000 in
set_option maxRecDepth 100000 in
theorem slices_IndexFunc_int64_int64_88.calls (g : Nat) (lb : Array Value) (q : Int → Prop) (p : Int → Bool) (eg : ∀ args w, (callFunc g args).run Tryd.prog w = .ok (.enter g args) w)
    (A0 : Option Addr) (c0 : Nat) (l0 : List Int) (w : World) (hp : PredK Tryd.prog g lb (Kd.int .i64) q p w) (hq : ∀ x ∈ l0, q x) (hr0 : Kd.C (Kd.int .i64) w A0 l0.length l0) (hm : l0.length ≤ 9223372036854775807) :
    Calls Tryd.prog 88 #[.slice A0 l0.length c0, .func (.func g) #[] lb] w fun e w' => e = .returned (.int .i64 (idxK p l0 0)) ∧ Below w.heap.size w w' := by
  have HP := Aside0.mk hp
  have HR := Aside0.mk hr0
  have HQ := Aside0.mk hq
  clear hp hr0 hq
  go_enter Tryd.func88, Tryd.ntmps88
  go_wp2
  go_loopg [5, 8] l0.length (fun gg _ s8 wr => ∃ kk : Nat, kk ≤ l0.length ∧ l0.length - kk ≤ gg ∧ s8 = .int .i64 kk ∧ Aside0 (idxK p (l0.drop kk) kk = idxK p l0 0) ∧ Aside0 (Below w.heap.size w wr))
  case atStart => exact ⟨0, Nat.zero_le _, by omega, rfl, ⟨rfl⟩, ⟨Below.refl _ _⟩⟩
  case round =>
    obtain ⟨kk, hkk, hg, rfl, A, HB⟩ := hrel
    by_cases hlt : kk < l0.length
    · have hltz : (kk : Int) < (l0.length : Int) := by omega
      obtain ⟨ad, v, rfl, hcell, hK⟩ := Kd.C_one rfl (Kd.C_below HR.out HB.out) kk hlt rfl
      have hcall := HP.out wr _ v (HQ.out _ (List.getElem_mem hlt)) hK HB.out
      have HK1 := (Kd.int .i64).K_one hK v (by simp)
      have E := Aside0.mk (idxK_drop p l0 kk hlt)
      generalize p l0[kk] = b at hcall E
      clear hK
      cases b with
      | true =>
        go_wp2_with (go_at_fn g; refine hcall.mono ?_; rintro e w' ⟨rfl, hb⟩)
        go_ret
        refine ⟨?_, below_then HB.out HB.out.size hb⟩
        rw [← A.out, E.out]; rfl
      | false =>
        go_wp2_with (go_at_fn g; refine hcall.mono ?_; rintro e w' ⟨rfl, hb⟩)
        go_roundg (l0.length - (kk + 1))
        case measure => omega
        case rel => exact ⟨kk + 1, by omega, by omega, by go_num, ⟨by rw [← A.out, E.out]; rfl⟩, ⟨below_then HB.out HB.out.size hb⟩⟩
    · have hltz : ¬ (kk : Int) < (l0.length : Int) := by omega
      have : kk = l0.length := by omega
      subst this
      go_wp2
      go_ret
      refine ⟨?_, HB.out⟩
      rw [← A.out]; simp [idxK]
set_option maxHeartbeats 4000000 in
set_option maxRecDepth 100000 in
/-- The same of a function value that may turn what lies, as long as I goes on (I counts the calls). -/
theorem slices_IndexFunc_int64_int64_88.callsI (g : Nat) (lb : Array Value) (p : Int → Bool) (eg : ∀ args w, (callFunc g args).run Tryd.prog w = .ok (.enter g args) w) (I : Nat → World → Prop)
    (A0 : Option Addr) (c0 : Nat) (l0 : List Int) (w : World) (hI : I 0 w) (hp : ∀ i W x, i < l0.length → I i W → x ∈ l0 → Calls Tryd.prog g (#[.int .i64 x] ++ lb) W fun e W' => e = .returned (.bool (p x)) ∧ I (i + 1) W') (hC : ∀ i W, I i W → Kd.C (Kd.int .i64) W A0 l0.length l0) (hm : l0.length ≤ 9223372036854775807) :
    Calls Tryd.prog 88 #[.slice A0 l0.length c0, .func (.func g) #[] lb] w fun e w' => e = .returned (.int .i64 (idxK p l0 0)) ∧ ∃ i, i ≤ l0.length ∧ I i w' := by
  have HP := Aside0.mk hp
  have HR := Aside0.mk hC
  have H0 := Aside0.mk hI
  clear hp hC hI
  go_enter Tryd.func88, Tryd.ntmps88
  go_wp2
  go_loopg [5, 8] l0.length (fun gg _ s8 wr => ∃ kk : Nat, kk ≤ l0.length ∧ l0.length - kk ≤ gg ∧ s8 = .int .i64 kk ∧ Aside0 (idxK p (l0.drop kk) kk = idxK p l0 0) ∧ Aside0 (I kk wr))
  case atStart => exact ⟨0, Nat.zero_le _, by omega, rfl, ⟨rfl⟩, H0⟩
  case round =>
    obtain ⟨kk, hkk, hg, rfl, A, HB⟩ := hrel
    clear H0
    by_cases hlt : kk < l0.length
    · have hltz : (kk : Int) < (l0.length : Int) := by omega
      obtain ⟨ad, v, rfl, hcell, hK⟩ := Kd.C_one rfl (HR.out kk wr HB.out) kk hlt rfl
      obtain rfl : v = .int .i64 l0[kk] := by simpa [Kd.int, Kd.scalar] using hK
      have hcall := HP.out kk wr _ hlt HB.out (List.getElem_mem hlt)
      have E := Aside0.mk (idxK_drop p l0 kk hlt)
      generalize p l0[kk] = b at hcall E
      generalize l0[kk] = x at hcall hcell
      clear hK
      cases b with
      | true =>
        go_wp2_with (go_at_fn g; refine hcall.mono ?_; rintro e w' ⟨rfl, hb⟩)
        go_ret
        refine ⟨?_, kk + 1, hlt, hb⟩
        rw [← A.out, E.out]; rfl
      | false =>
        go_wp2_with (go_at_fn g; refine hcall.mono ?_; rintro e w' ⟨rfl, hb⟩; have HB2 := Aside0.mk hb; clear hb)
        go_roundg (l0.length - (kk + 1))
        case measure => omega
        case rel => exact ⟨kk + 1, by omega, by omega, by go_num, ⟨by rw [← A.out, E.out]; rfl⟩, HB2⟩
    · have hltz : ¬ (kk : Int) < (l0.length : Int) := by omega
      have : kk = l0.length := by omega
      subst this
      go_wp2
      go_ret
      refine ⟨?_, _, Nat.le_refl _, HB.out⟩
      rw [← A.out]; simp [idxK]
/-! ### slices_ContainsFunc_int64_int64_66: function 66 -/
-- EXTERNAL: by hand
set_option maxHeartbeats 1000000 in
theorem slices_ContainsFunc_int64_int64_66.calls (g : Nat) (lb : Array Value) (q : Int → Prop) (p : Int → Bool) (eg : ∀ args w, (callFunc g args).run Tryd.prog w = .ok (.enter g args) w)
    (A0 : Option Addr) (c0 : Nat) (l0 : List Int) (w : World) (hp : PredK Tryd.prog g lb (Kd.int .i64) q p w) (hq : ∀ x ∈ l0, q x) (hr0 : Kd.C (Kd.int .i64) w A0 l0.length l0) (hm : l0.length ≤ 9223372036854775807) :
    Calls Tryd.prog 66 #[.slice A0 l0.length c0, .func (.func g) #[] lb] w fun e w' => e = .returned (.bool (l0.any p)) ∧ Below w.heap.size w w' := by
  rw [← idxK_any]
  have HI := slices_IndexFunc_int64_int64_88.calls g lb q p eg A0 c0 l0 w hp hq hr0 hm
  clear hp hq hr0
  generalize idxK p l0 0 = r at HI ⊢
  go_enter Tryd.func66, Tryd.ntmps66
  go_wp2_with (go_at_call 88; refine HI.mono ?_; rintro e w' ⟨rfl, hb⟩)
  go_ret
  exact ⟨rfl, hb⟩
set_option maxHeartbeats 1000000 in
theorem slices_ContainsFunc_int64_int64_66.callsI (g : Nat) (lb : Array Value) (p : Int → Bool) (eg : ∀ args w, (callFunc g args).run Tryd.prog w = .ok (.enter g args) w) (I : Nat → World → Prop)
    (A0 : Option Addr) (c0 : Nat) (l0 : List Int) (w : World) (hI : I 0 w) (hp : ∀ i W x, i < l0.length → I i W → x ∈ l0 → Calls Tryd.prog g (#[.int .i64 x] ++ lb) W fun e W' => e = .returned (.bool (p x)) ∧ I (i + 1) W') (hC : ∀ i W, I i W → Kd.C (Kd.int .i64) W A0 l0.length l0) (hm : l0.length ≤ 9223372036854775807) :
    Calls Tryd.prog 66 #[.slice A0 l0.length c0, .func (.func g) #[] lb] w fun e w' => e = .returned (.bool (l0.any p)) ∧ ∃ i, i ≤ l0.length ∧ I i w' := by
  rw [← idxK_any]
  have HI := slices_IndexFunc_int64_int64_88.callsI g lb p eg I A0 c0 l0 w hI hp hC hm
  clear hp hI hC
  generalize idxK p l0 0 = r at HI ⊢
  go_enter Tryd.func66, Tryd.ntmps66
  go_wp2_with (go_at_call 88; refine HI.mono ?_; rintro e w' ⟨rfl, hb⟩)
  go_ret
  exact ⟨rfl, hb⟩
-- A literal as a block of its own, and stores into blocks that are new.
section
variable {P : Program} {ops : Array Oper} {rest : List Oper} {o : Oper} {a : Act} {Q : Exit → Act → World → Prop}
end
theorem run_store_func {P : Program} {w : World} {a : Addr} {m : Mode} (f : Fn) (t b : Array Value) : (store a (.func f t b) m).run P w = stored P w a (.func f t b) m := run_store P w a _ m rfl
-- needs: maps that keep what is known (memo)
/-- What a map keeps is so. -/
def Memo (P : Program) (k : TypeId) (F : Value → Int → Prop) (D : DataW Unit) : Prop :=
  ∀ key kl c, keyOf P k key = some kl → Go.Maps.has D kl = true → D.atKey kl (.lit (.int .i64 0)) = .lit (.int .i64 c) → F key c
theorem Memo.empty {P : Program} {k : TypeId} {F : Value → Int → Prop} : Memo P k F (.map []) := fun _ _ _ _ h => by simp [Go.Maps.has] at h
theorem Memo.put {P : Program} {k : TypeId} {F : Value → Int → Prop} {D : DataW Unit} (K : Go.Maps.Keyed P k) (hm : Go.Maps.IsMap D) (h : Memo P k F D) {key : Value} {kl : Lit} {c : Int} (hk : keyOf P k key = some kl) (hF : F key c) :
    Memo P k F (D.put kl (.lit (.int .i64 c))) := by
  intro key' kl' c' hk' hh ha
  by_cases e : kl' = kl
  · subst e
    have : key' = key := K.inj hk' hk
    subst this
    rw [Go.Maps.atKey_put_same hm (K.key hk)] at ha
    injection ha with ha
    injection ha with _ ha
    exact ha ▸ hF
  · rw [Go.Maps.has_put_other e] at hh
    rw [Go.Maps.atKey_put_other e] at ha
    exact h key' kl' c' hk' hh ha
/-- Block gm is a map of at most N entries that keeps what is so. -/
def HasMemo (P : Program) (k e : TypeId) (F : Value → Int → Prop) (gm N : Nat) (W : World) : Prop := ∃ D : DataW Unit, W.ownsMap P k (plainElem P e) gm N D ∧ Memo P k F D
theorem HasMemo.mono {P : Program} {k e : TypeId} {F : Value → Int → Prop} {gm N N' : Nat} {W : World} (h : HasMemo P k e F gm N W) (hN : N ≤ N') : HasMemo P k e F gm N' W := by
  obtain ⟨D, h1, h2⟩ := h
  exact ⟨D, h1.mono hN, h2⟩
theorem HasMemo.below {P : Program} {k e : TypeId} {F : Value → Int → Prop} {gm N : Nat} {W W' : World} (h : HasMemo P k e F gm N W) (hb : Below W.heap.size W W') : HasMemo P k e F gm N W' := by
  obtain ⟨D, h1, h2⟩ := h
  exact ⟨D, h1.kept (grown_of_below hb none) (by simp), h2⟩
theorem HasMemo.drew {P : Program} {k e : TypeId} {F : Value → Int → Prop} {gm N : Nat} {W : World} (h : HasMemo P k e F gm N W) : HasMemo P k e F gm N W.drew := by
  obtain ⟨D, h1, h2⟩ := h
  exact ⟨D, h1.drew, h2⟩
theorem HasMemo.lt {P : Program} {k e : TypeId} {F : Value → Int → Prop} {gm N : Nat} {W : World} (h : HasMemo P k e F gm N W) : gm < W.heap.size := by
  obtain ⟨D, h1, _⟩ := h
  exact h1.lt
theorem grown_refl_some (W : World) (g : Nat) : W.grownBy W (some g) := World.grownBy.refl W (some g)
theorem grown_after_below {w W W2 : World} {g : Nat} (hb : Below w.heap.size w W) (h : W.grownBy W2 (some g)) : w.grownBy W2 (some g) := (grown_of_below hb (some g)).trans h
theorem blk_grownB {W W2 : World} {g gm : Nat} {o : Obj} (h : W.heap[g]? = some o) (hg : W.grownBy W2 (some gm)) (hne : g ≠ gm) : W2.heap[g]? = some o := blk_grown h hg (fun e => hne (by injection e))
section
variable {P : Program} {ops : Array Oper} {S : World → Prop} {ds : List Nat} {md : Region.Mode} {Q : Exit → Act → World → Prop}
/-- A call of a function value in a region of open order. -/
theorem goesF_ {oi : Oper} {N : Option Tmp} {a : Act} {w : World} {K : Act → World → Prop} {g : FuncId} {x : Operand} {lb : Array Value} {as_ : Array Operand} {ts : Array TypeId} (eg : ∀ args w, (callFunc g args).run P w = .ok (.enter g args) w) (args : Array Value)
    (hw : Region.wanted oi (yielded ops a.tmps) = true) (hN : oi.dst = N) (hop : oi.op = .call { callee := .value x, args := as_, argTypes := ts }) (hx : a.eval x = .func (.func g) #[] lb) (hargs : as_.map a.eval = args)
    (h : Calls P g (args ++ lb) w fun e w' => ∃ v, e = .returned v ∧ K (a.put N v) w') : if Region.wanted oi (yielded ops a.tmps) = true then Oper.wp P oi a w K Q else K (a.put N undef) w := by
  refine call_ g (args ++ lb) hw hN ?_ h
  unfold execOp
  simp [hop, resolve, Deferred.ofValue, invoke, hx, hargs, eg]
/-- A map that is made. -/
theorem made_event {rest : List Oper} {o : Oper} {a : Act} {W : World} (hgd : o.guard = none) {N : Tmp} (_hd : o.dst = some N) (k : TypeId) (R : Value → Option (DataW Unit × List MemPlace))
    (hrun : (execOp a.eval o).run P W = .ok (.value (.map (some W.heap.size))) (W.alloc (.map #[] 0)))
    (h : ∀ g, g = W.heap.size → ∀ w1, w1.ownsMap P k R g 0 (.map []) → Below W.heap.size W w1 → wpList P ops Q rest (a.put o.dst (.map (some g))) w1) : wpList P ops Q (o :: rest) a W :=
  Kd.event_run hgd hrun (h _ rfl _ (World.ownsMap_made _ _ _ _) (below_alloc (Below.refl _ _) _))
theorem run_store_map_ {P : Program} {w : World} {a : Addr} {m : Mode} (g : Option Nat) : (store a (.map g) m).run P w = stored P w a (.map g) m := run_store P w a _ m rfl
end
/-! ### impl_Net_winners: function 41 -/
-- EXTERNAL: by hand
-- impl_Net_over impl_turn_open impl_turn_after slices_ContainsFunc_int64_int64_66 impl_bit
theorem turnKeyed : Go.Maps.Keyed Tryd.prog 64 := Go.Maps.Keyed.of_law (deep_law_laid (P := Tryd.prog) (by kernel_rfl) (m := 2) (by omega) (of_decide_eq_true (by kernel_rfl)) (by kernel_rfl) (by kernel_rfl))
theorem turnKey (s : ByteArray) (b : Bool) (h : s.size ≤ maxLen) : ∃ kl, keyOf Tryd.prog 64 (.agg #[.string s, .bool b]) = some kl := by
  have h1 : Tryd.prog.keyType 64 = true := by kernel_rfl
  have h2 : (Value.agg #[.string s, .bool b]).formed Tryd.prog 64 = true := by
    simp only [Value.formed, Tryd.underlying64]
    have : Tryd.prog.cellsOf 64 = 2 := by kernel_rfl
    rw [this]; rfl
  have h3 : Tryd.prog.keyLits (Tryd.prog.types.size + 1) 64 [.string s, .bool b] = some [.string s.data.toList, .bool b] := by
    obtain ⟨m, hm⟩ : ∃ m, Tryd.prog.types.size = m + 1 := ⟨Tryd.prog.types.size - 1, by kernel_rfl⟩
    have c0 : Tryd.prog.cellsOf 64 = 2 := by kernel_rfl
    have c1 : Tryd.prog.cellsOf 9 = 1 := by kernel_rfl
    have c2 : Tryd.prog.cellsOf 4 = 1 := by kernel_rfl
    rw [hm]
    simp [Program.keyLits, Tryd.underlying64, Tryd.underlying9, Tryd.underlying4, c0, c1, c2, h]
  unfold keyOf
  simp only [Tryd.underlying64]
  rw [h1, h2]
  simp only [Bool.and_self, if_true]
  rw [show (Value.agg #[Value.string s, Value.bool b]).cells.toList = [.string s, .bool b] from rfl, h3]
  exact ⟨_, rfl⟩
/-- What the map of winners keeps. -/
def WinF (l : List (List Int)) (v : Value) (c : Int) : Prop := ∀ s b, v = .agg #[.string s, .bool b] → c = netWin l s b
/-- How many entries a call with d open edges may make. -/
def winCnt : Nat → Nat
  | 0 => 1
  | d + 1 => (d + 1) * winCnt d + 1
theorem winCnt_pos (d : Nat) : 1 ≤ winCnt d := by cases d <;> simp [winCnt]
structure WinEnv (w0 : World) (gK gX gF gm : Nat) (p : Int) (A : Option Addr) (c : Nat) (l : List (List Int)) (N : Nat) (W : World) : Prop where
  below : Below w0.heap.size w0 W
  hk : W.heap[gK]? = some (.cells #[.map (some gm)] 86 (0, 0))
  hx : W.heap[gX]? = some (.cells #[.int .i64 p, .slice A l.length c] 28 (0, 0))
  hf : W.heap[gF]? = some (.cells #[.func (.func 64) #[] #[.pointer (some ⟨gK, 0, none⟩), .pointer (some ⟨gX, 0, none⟩), .pointer (some ⟨gF, 0, none⟩)]] 61 (0, 0))
  memo : HasMemo Tryd.prog 64 2 (WinF l) gm N W
  ne : gm ≠ gK ∧ gm ≠ gX ∧ gm ≠ gF
  base : w0.heap.size ≤ gm
theorem WinEnv.step {w0 : World} {gK gX gF gm : Nat} {p : Int} {A : Option Addr} {c : Nat} {l : List (List Int)} {N : Nat} {W W' : World} (h : WinEnv w0 gK gX gF gm p A c l N W) (hb : Below W.heap.size W W') : WinEnv w0 gK gX gF gm p A c l N W' :=
  ⟨below_step h.below hb, blk_below h.hk hb, blk_below h.hx hb, blk_below h.hf hb, h.memo.below hb, h.ne, h.base⟩
theorem WinEnv.drew {w0 : World} {gK gX gF gm : Nat} {p : Int} {A : Option Addr} {c : Nat} {l : List (List Int)} {N : Nat} {W : World} (h : WinEnv w0 gK gX gF gm p A c l N W) : WinEnv w0 gK gX gF gm p A c l N W.drew :=
  ⟨below_drew1 h.below, blk_drew h.hk, blk_drew h.hx, blk_drew h.hf, h.memo.drew, h.ne, h.base⟩
theorem WinEnv.mono {w0 : World} {gK gX gF gm : Nat} {p : Int} {A : Option Addr} {c : Nat} {l : List (List Int)} {N N' : Nat} {W : World} (h : WinEnv w0 gK gX gF gm p A c l N W) (hN : N ≤ N') : WinEnv w0 gK gX gF gm p A c l N' W :=
  ⟨h.below, h.hk, h.hx, h.hf, h.memo.mono hN, h.ne, h.base⟩
theorem after_val (s : ByteArray) (b : Bool) (k : Int) (h0 : 0 ≤ k) (h1 : k < (s.size : Int)) (hs : s.size ≤ 4611686018427387904) : impl_turn_after.f s b k = some (afterV s k b, !b) := by
  have hw : wrap64 (k + 1) = k + 1 := by unfold wrap64; omega
  have e1 : (⟨#[115]⟩ : ByteArray).size = 1 := rfl
  have e2 : (⟨#[99]⟩ : ByteArray).size = 1 := rfl
  unfold impl_turn_after.f afterV signV
  rw [hw]
  cases b with
  | true =>
    rw [if_pos rfl, if_pos h0, if_pos (by omega), if_pos (by rw [ByteArray.size_extract]; omega), if_pos (by omega), if_pos (by omega), if_pos (by rw [ByteArray.size_append, ByteArray.size_extract, ByteArray.size_extract, e1]; omega)]
    rfl
  | false =>
    rw [if_neg (by simp), if_pos h0, if_pos (by omega), if_pos (by rw [ByteArray.size_extract]; omega), if_pos (by omega), if_pos (by omega), if_pos (by rw [ByteArray.size_append, ByteArray.size_extract, ByteArray.size_extract, e2]; omega)]
    rfl
theorem eg_find : ∀ args w, (callFunc 64 args).run Tryd.prog w = .ok (.enter 64 args) w := enters_of Tryd.func64 (by kernel_rfl) rfl
theorem eg_wpred : ∀ args w, (callFunc 67 args).run Tryd.prog w = .ok (.enter 67 args) w := enters_of Tryd.func67 (by kernel_rfl) rfl
/-- What the finder does, for at most d open edges. -/
def FindDoes (w0 : World) (gK gX gF gm : Nat) (p : Int) (A : Option Addr) (c : Nat) (l : List (List Int)) (d : Nat) : Prop :=
  ∀ (s : ByteArray) (b : Bool) (N : Nat) (W : World), (freeV s).length ≤ d → s.size = l.length → WinEnv w0 gK gX gF gm p A c l N W → N + winCnt d < maxLen →
    Calls Tryd.prog 64 #[.agg #[.string s, .bool b], .pointer (some ⟨gK, 0, none⟩), .pointer (some ⟨gX, 0, none⟩), .pointer (some ⟨gF, 0, none⟩)] W fun e W' => e = .returned (.int .i64 (netWin l s b)) ∧ WinEnv w0 gK gX gF gm p A c l (N + winCnt d) W' ∧ W.grownBy W' (some gm)
def winPred.T1 : Bool × List (List Nat × List Nat) := (true, [([], []), ([], []), ([], []), ([1, 2], [1, 2]), ([0, 3, 3], [0, 3]), ([], []), ([4, 5], [4, 5]), ([6, 4, 0, 1, 2, 3, 4, 5, 6], [6])])
def winPred.B1 : List Nat := [0, 0, 0, 6, 15, 0, 63, 127]
theorem winPred.tab1 : rtab .any (opsOf Tryd.f67 1) = winPred.T1 := by kernel_rfl
theorem winPred.bits1 : waitsOk winPred.T1.2 winPred.B1 = true := by kernel_rfl
set_option maxHeartbeats 4000000 in
set_option maxRecDepth 100000 in
theorem winPred (w0 : World) (gK gX gF gm : Nat) (p : Int) (A : Option Addr) (c : Nat) (l : List (List Int)) (d : Nat) (IH : FindDoes w0 gK gX gF gm p A c l d) (hl : l.length ≤ 10)
    (gt go : Nat) (s : ByteArray) (b : Bool) (o : Int) (N : Nat) (W : World) (x : Int) (ht : W.heap[gt]? = some (.cells #[.string s, .bool b] 64 (0, 0))) (ho : W.heap[go]? = some (.cells #[.int .i64 o] 2 (0, 0))) (hne : gt ≠ gm ∧ go ≠ gm)
    (hx : x ∈ freeV s) (hd : (freeV s).length ≤ d + 1) (hs : s.size = l.length) (hE : WinEnv w0 gK gX gF gm p A c l N W) (hN : N + winCnt d < maxLen) :
    Calls Tryd.prog 67 #[.int .i64 x, .pointer (some ⟨gF, 0, none⟩), .pointer (some ⟨gt, 0, none⟩), .pointer (some ⟨go, 0, none⟩)] W fun e W' => e = .returned (.bool (netWin l (afterV s x b) (!b) == o)) ∧ WinEnv w0 gK gX gF gm p A c l (N + winCnt d) W' ∧ W.grownBy W' (some gm) := by
  obtain ⟨x0, x1, _⟩ := mem_chosenTo.1 hx
  have hav := after_val s b x x0 x1 (by omega)
  have hfl := free_less s x b hx
  have hsz : (afterV s x b).size = l.length := by
    obtain ⟨j, rfl⟩ : ∃ j : Nat, x = (j : Int) := ⟨x.toNat, by omega⟩
    rw [afterV_size s j b (by omega), hs]
  have HAV := Aside0.mk hav
  have HIH := Aside0.mk (fun W' hE' => IH (afterV s x b) (!b) N W' (by omega) hsz hE' hN)
  generalize afterV s x b = s' at HAV HIH
  generalize (!b) = b' at HAV HIH
  generalize netWin l s' b' = r at HIH ⊢
  have n1_ := Aside0.mk hE.drew
  have n2_ := Aside0.mk (blk_drew ht)
  have n3_ := Aside0.mk (blk_drew ho)
  have HNE := Aside0.mk hne
  have HGM := Aside0.mk hE.memo.lt
  have HWD := Aside0.mk (show Below W.heap.size W W.drew from below_drew1 (Below.refl _ _))
  have HNF := Aside0.mk hE.ne
  have hu := Tryd.underlying64
  clear IH ht ho hne hx hd hs hE hN x0 x1 hav hfl hsz
  go_enter Tryd.func67, Tryd.ntmps67
  try go_wp2
  refine start_ (n := 8) (S := fun w' => w'.cell? ⟨gF, 0, none⟩ = some (.func (.func 64) #[] #[.pointer (some ⟨gK, 0, none⟩), .pointer (some ⟨gX, 0, none⟩), .pointer (some ⟨gF, 0, none⟩)]) ∧ w'.cell? ⟨gt, 0, none⟩ = some (.string s) ∧ w'.cell? ⟨gt, 1, none⟩ = some (.bool b) ∧ w'.cell? ⟨go, 0, none⟩ = some (.int .i64 o)) (ds := []) #[false, false, false, false, false, false, false, false] (by kernel_rfl) rfl rfl ⟨(blk_cell n1_.out.hf 0).trans rfl, (blk_cell n2_.out 0).trans rfl, (blk_cell n2_.out 1).trans rfl, (blk_cell n3_.out 0).trans rfl⟩ (fun hHeld => ?_)
  refine with_tabW winPred.tab1 winPred.bits1 (fun HT_ HW_ => ?_)
  generalize hq_ : W.drew = wd_ at n1_ n2_ n3_ HWD hHeld ⊢
  clear hq_
  refine take_ (i := 0) (N := some 6) (v := ?_) (a' := ?_) #[true, false, false, false, false, false, false, false] rfl rfl (take_ofW HT_.out HW_.out (by kernel_rfl)) (fun _ _ _ h => h) (Or.inl ⟨by rfl, ?_⟩) hHeld ?_ ?_
  rotate_left
  · rintro w' ⟨s0, s1, s2, s3⟩
    go_simp
    with_reducible rfl
  rotate_left
  · simp only [Act.put, List.setIfInBounds_toArray, List.set_cons_zero, List.set_cons_succ, i64_w, i32_w]
    rfl
  refine take_ (i := 1) (N := some 7) (v := ?_) (a' := ?_) #[true, true, false, false, false, false, false, false] rfl rfl (take_ofW HT_.out HW_.out (by kernel_rfl)) (fun _ _ _ h => h) (Or.inl ⟨by rfl, ?_⟩) hHeld ?_ ?_
  rotate_left
  · rintro w' ⟨s0, s1, s2, s3⟩
    go_simp
    with_reducible rfl
  rotate_left
  · simp only [Act.put, List.setIfInBounds_toArray, List.set_cons_zero, List.set_cons_succ, i64_w, i32_w]
    rfl
  refine pure_ (i := 2) (N := some 8) (v := ?_) (a' := ?_) #[true, true, true, false, false, false, false, false] rfl rfl (any_of HT_.out (by kernel_rfl)) (fun _ _ _ h => h) (Or.inl ⟨by rfl, ?_⟩) ?_ ?_
  rotate_left
  · intro w'
    go_simp
    with_reducible rfl
  rotate_left
  · simp only [Act.put, List.setIfInBounds_toArray, List.set_cons_zero, List.set_cons_succ, i64_w, i32_w]
    rfl
  refine take_ (i := 5) (N := some 11) (v := ?_) (a' := ?_) #[true, true, true, false, false, true, false, false] rfl rfl (take_ofW HT_.out HW_.out (by kernel_rfl)) (fun _ _ _ h => h) (Or.inl ⟨by rfl, ?_⟩) hHeld ?_ ?_
  rotate_left
  · rintro w' ⟨s0, s1, s2, s3⟩
    go_simp
    with_reducible rfl
  rotate_left
  · simp only [Act.put, List.setIfInBounds_toArray, List.set_cons_zero, List.set_cons_succ, i64_w, i32_w]
    rfl
  refine one_ (i := 3) (N := some 9) #[true, true, true, true, false, true, false, false] rfl rfl (one_of HT_.out (by kernel_rfl)) (by decide) (fun K hK => ?_)
  refine goes_ Tryd.func48 (by kernel_rfl) rfl #[.agg #[.string s, .bool b], .int .i64 x] (by rfl) rfl rfl (by (try simp only [List.map_toArray, List.map_cons, List.map_nil]); first | done | rfl) ?_
  refine (impl_turn_after.calls s b x s' b' _ HAV.out).mono ?_
  rintro e wa_ ⟨rfl, hb⟩
  refine ⟨_, rfl, ?_⟩
  have HE2 := Aside0.mk (n1_.out.step hb)
  have HT2 := Aside0.mk (blk_below n2_.out hb)
  have HO2 := Aside0.mk (blk_below n3_.out hb)
  have HW2 := Aside0.mk (below_step HWD.out hb)
  clear hb n1_ n2_ n3_ HWD
  refine hK.out _ _ ⟨(blk_cell HE2.out.hf 0).trans rfl, (blk_cell HT2.out 0).trans rfl, (blk_cell HT2.out 1).trans rfl, (blk_cell HO2.out 0).trans rfl⟩ (fun hHeld => ?_)
  clear hK K
  refine norm_ (a' := ?_) ?_ ?_
  rotate_left
  · show Act.put _ (some 9) _ = _
    simp only [Act.put, List.setIfInBounds_toArray, List.set_cons_zero, List.set_cons_succ, i64_w, i32_w]
    rfl
  refine one_ (i := 4) (N := some 10) #[true, true, true, true, true, true, false, false] rfl rfl (one_of HT_.out (by kernel_rfl)) (by decide) (fun K hK => ?_)
  refine goesF_ (x := .tmp 6) (lb := #[.pointer (some ⟨gK, 0, none⟩), .pointer (some ⟨gX, 0, none⟩), .pointer (some ⟨gF, 0, none⟩)]) eg_find #[.agg #[.string s', .bool b']] (by rfl) rfl rfl rfl (by (try simp only [List.map_toArray, List.map_cons, List.map_nil]); first | done | rfl) ?_
  refine (HIH.out _ HE2.out).mono ?_
  rintro e wb_ ⟨rfl, hE3, hG3⟩
  refine ⟨_, rfl, ?_⟩
  have HE3 := Aside0.mk hE3
  have HT3 := Aside0.mk (blk_grownB HT2.out hG3 HNE.out.1)
  have HO3 := Aside0.mk (blk_grownB HO2.out hG3 HNE.out.2)
  have HG3 := Aside0.mk (grown_after_below HW2.out hG3)
  clear hE3 hG3 HT2 HO2 HE2 HW2
  refine hK.out _ _ ⟨(blk_cell HE3.out.hf 0).trans rfl, (blk_cell HT3.out 0).trans rfl, (blk_cell HT3.out 1).trans rfl, (blk_cell HO3.out 0).trans rfl⟩ (fun hHeld => ?_)
  clear hK K
  refine norm_ (a' := ?_) ?_ ?_
  rotate_left
  · show Act.put _ (some 10) _ = _
    simp only [Act.put, List.setIfInBounds_toArray, List.set_cons_zero, List.set_cons_succ, i64_w, i32_w]
    rfl
  refine pure_ (i := 6) (N := some 12) (v := ?_) (a' := ?_) #[true, true, true, true, true, true, true, false] rfl rfl (any_of HT_.out (by kernel_rfl)) (fun _ _ _ h => h) (Or.inl ⟨by rfl, ?_⟩) ?_ ?_
  rotate_left
  · intro w'
    go_simp
    with_reducible rfl
  rotate_left
  · simp only [Act.put, List.setIfInBounds_toArray, List.set_cons_zero, List.set_cons_succ, i64_w, i32_w]
    rfl
  refine pure_ (i := 7) (N := some 5) (v := ?_) (a' := ?_) #[true, true, true, true, true, true, true, true] rfl rfl (any_of HT_.out (by kernel_rfl)) (fun _ _ _ h => h) (Or.inl ⟨by rfl, ?_⟩) ?_ ?_
  rotate_left
  · intro w'
    go_simp
    with_reducible rfl
  rotate_left
  · simp only [Act.put, List.setIfInBounds_toArray, List.set_cons_zero, List.set_cons_succ, i64_w, i32_w]
    rfl
  refine done_ (done_of HT_.out (by kernel_rfl)) ?_
  go_wp2_with fail
  go_ret
  exact ⟨rfl, HE3.out, HG3.out⟩
/-- What goes on from call to call of the predicate. -/
def WinI (w0 : World) (gK gX gF gm : Nat) (p : Int) (A : Option Addr) (c : Nat) (l : List (List Int)) (d N : Nat) (w1 : World) (i : Nat) (W : World) : Prop := WinEnv w0 gK gX gF gm p A c l (N + i * winCnt (d - 1)) W ∧ w1.grownBy W (some gm)
theorem winI_reads {w0 w w1 : World} {gK gX gF gm : Nat} {p : Int} {A A31 : Option Addr} {c c31 : Nat} {l : List (List Int)} {d N : Nat} {xs : List Int} {i : Nat} {W : World} (ho : Kd.R (Kd.int .i64) 2 w1 w.heap.size (fun _ => True) (.slice A31 xs.length c31) xs) (hgm : gm < w.heap.size)
    (hI : WinI w0 gK gX gF gm p A c l d N w1 i W) : Kd.C (Kd.int .i64) W A31 xs.length xs :=
  (Kd.R_reads' (Kd.R_grown2 ho rfl hI.2 (fun k hk e => by cases hk; have := Kd.R_base ho _ e.symm; omega))).2.2
theorem cnt_step {d i f : Nat} (hi : i < f) (hf : f ≤ d) : i * winCnt (d - 1) + winCnt (d - 1) ≤ winCnt d := by
  cases d with
  | zero => omega
  | succ d =>
    have : (i + 1) * winCnt d ≤ (d + 1) * winCnt d := Nat.mul_le_mul_right _ (by omega)
    have e : (i + 1) * winCnt d = i * winCnt d + winCnt d := Nat.succ_mul _ _
    show i * winCnt d + winCnt d ≤ (d + 1) * winCnt d + 1
    omega
theorem cnt_last {d i f : Nat} (hi : i ≤ f) (hf : f ≤ d) : i * winCnt (d - 1) + 1 ≤ winCnt d := by
  cases d with
  | zero => have : i = 0 := by omega
            subst this; simp [winCnt]
  | succ d =>
    have : i * winCnt d ≤ (d + 1) * winCnt d := Nat.mul_le_mul_right _ (by omega)
    show i * winCnt d + 1 ≤ (d + 1) * winCnt d + 1
    omega
theorem winI_pred (w0 : World) (gK gX gF gm : Nat) (p : Int) (A : Option Addr) (c : Nat) (l : List (List Int)) (d : Nat) (IH : d ≠ 0 → FindDoes w0 gK gX gF gm p A c l (d - 1)) (hl : l.length ≤ 10)
    (gt go : Nat) (s : ByteArray) (b : Bool) (o : Int) (N : Nat) (w1 : World) (hd : (freeV s).length ≤ d) (hs : s.size = l.length) (ht : w1.heap[gt]? = some (.cells #[.string s, .bool b] 64 (0, 0))) (ho : w1.heap[go]? = some (.cells #[.int .i64 o] 2 (0, 0))) (hne : gt ≠ gm ∧ go ≠ gm)
    (hN : N + winCnt d < maxLen) : ∀ i W x, i < (freeV s).length → WinI w0 gK gX gF gm p A c l d N w1 i W → x ∈ freeV s →
      Calls Tryd.prog 67 (#[.int .i64 x] ++ #[.pointer (some ⟨gF, 0, none⟩), .pointer (some ⟨gt, 0, none⟩), .pointer (some ⟨go, 0, none⟩)]) W fun e W' => e = .returned (.bool (netWin l (afterV s x b) (!b) == o)) ∧ WinI w0 gK gX gF gm p A c l d N w1 (i + 1) W' := by
  intro i W x hi hI hx
  have hst := cnt_step hi hd
  have h := winPred w0 gK gX gF gm p A c l (d - 1) (IH (by omega)) hl gt go s b o (N + i * winCnt (d - 1)) W x (blk_grownB ht hI.2 hne.1) (blk_grownB ho hI.2 hne.2) hne hx (by omega) hs hI.1 (by omega)
  refine h.mono ?_
  rintro e W' ⟨rfl, hE, hG⟩
  refine ⟨rfl, ?_, hI.2.trans hG⟩
  have e2 : N + i * winCnt (d - 1) + winCnt (d - 1) = N + (i + 1) * winCnt (d - 1) := by rw [Nat.succ_mul]; omega
  rw [← e2]
  exact hE
theorem wf_small {v : Int} (h0 : 0 ≤ v) (h1 : v ≤ 2) : (Lit.int .i64 v).wf = true := by
  have : v = wrap64 v := by unfold wrap64; omega
  rw [this]; exact wrap64_wf v
theorem bit_ex (b : Bool) : ∃ bv : Int, impl_bit.f b = some bv ∧ ownV b = 2 - bv ∧ 0 ≤ bv ∧ bv ≤ 1 := by
  cases b
  · exact ⟨0, by simp [impl_bit.f], rfl, by omega, by omega⟩
  · exact ⟨1, by simp [impl_bit.f], rfl, by omega, by omega⟩
/-- Behind the last store. -/
theorem find_env {w0 : World} {gK gX gF gm : Nat} {p : Int} {A : Option Addr} {c : Nat} {l : List (List Int)} {N N' n : Nat} {W W' : World} {D : DataW Unit} (h : WinEnv w0 gK gX gF gm p A c l N W) (ho : W'.ownsMap Tryd.prog 64 (plainElem Tryd.prog 2) gm n D) (hm : Memo Tryd.prog 64 (WinF l) D) (hg : W.grownBy W' (some gm)) (hn : n ≤ N') : WinEnv w0 gK gX gF gm p A c l N' W' :=
  ⟨h.below.grown hg h.below.size (fun k hk => by cases hk; exact h.base), blk_grownB h.hk hg h.ne.1.symm, blk_grownB h.hx hg h.ne.2.1.symm, blk_grownB h.hf hg h.ne.2.2.symm, ⟨D, ho.mono hn, hm⟩, h.ne, h.base⟩
set_option maxHeartbeats 8000000 in
set_option maxRecDepth 100000 in
theorem find_step (w0 : World) (gK gX gF gm : Nat) (p : Int) (A : Option Addr) (c : Nat) (l : List (List Int)) (hv : isNetV p l = true) (hr : Kd.C (Kd.slice 2 (Kd.int .i64)) w0 A l.length l) (hc : l.length ≤ c) (d : Nat) (IH : d ≠ 0 → FindDoes w0 gK gX gF gm p A c l (d - 1)) : FindDoes w0 gK gX gF gm p A c l d := by
  intro s b N w hd hs hE hN
  have hl := (netEdges hv).1.1
  have hov : impl_Net_over.f p l s = some (ovV l s) := by unfold impl_Net_over.f; rw [if_pos ⟨hv, hs⟩]
  obtain ⟨D, hown, hmem⟩ := hE.memo
  obtain ⟨kl, hkl⟩ := turnKey s b (by unfold maxLen; omega)
  obtain ⟨bv, hbv, how, hb0, hb1⟩ := bit_ex b
  have hfl : (freeV s).length ≤ s.size := chosenTo_le _ _
  have hfr : impl_turn_open.f s b = some (freeV s) := by unfold impl_turn_open.f; rw [if_pos (by omega)]
  have hwr := netWin_range l s b
  have hor := ovV_range l s
  have hnw := netWin_eq l s b
  have HE := Aside0.mk hE
  have HM := Aside0.mk hown
  have HMM := Aside0.mk hmem
  have HKL := Aside0.mk hkl
  have HBV := Aside0.mk hbv
  have HFL := Aside0.mk (show (freeV s).length ≤ 10 by omega)
  have HFR := Aside0.mk hfr
  have HWR := Aside0.mk hwr
  have HIH := Aside0.mk IH
  have HL10 := Aside0.mk hl
  have HD := Aside0.mk hd
  have HSS := Aside0.mk hs
  have HNB := Aside0.mk hN
  have HCP := Aside0.mk (winCnt_pos d)
  have HR := Aside0.mk hr
  have HC0 := Aside0.mk hc
  have HGM := Aside0.mk (show gm < w.heap.size from hown.lt)
  have HBW := Aside0.mk hE.below
  have HSZ := Aside0.mk hE.below.size
  have HB := Aside0.mk (Below.refl w.heap.size w)
  have HXK := Aside0.mk hE.hk
  have HXX := Aside0.mk hE.hx
  have HXF := Aside0.mk hE.hf
  have hck0 := (blk_cell HXK.out 0).trans rfl
  have hcx0 := (blk_cell HXX.out 0).trans rfl
  have hcx1 := (blk_cell HXX.out 1).trans rfl
  have zeroE : ∀ W : World, (zeroValue 2).run Tryd.prog W = .ok (.int .i64 0) W := fun W => by kernel_rfl
  have hu := Tryd.underlying64
  have hu2 := Tryd.underlying28
  have HOV := Aside0.mk hov
  obtain ⟨hb, hhas⟩ : ∃ hb, Go.Maps.has D kl = hb := ⟨_, rfl⟩
  have HHAS := Aside0.mk hhas
  clear IH hE hown hmem hkl hbv hfl hfr hwr hl hd hs hN hr hc hov hv hhas
  cases hb with
  | true =>
    clear hnw how hb0 hb1 hor
    go_enter Tryd.func64, Tryd.ntmps64
    go_wp2_with (first | ((with_reducible refine gate_dst (N := 4) rfl ?_); refine box_event ?hg (N := 4) ?hd (cs := #[.string s, .bool b]) (t := 64) ?hr ?_; (case hd => rfl); (case hg => rfl); (case hr => first | (go_simp; done) | (go_simp; rfl)); intro g4 hg_ w_ hbox hb; have HX4 := Aside0.mk hbox; have HG4 := Aside0.mk (show w.heap.size ≤ g4 ∧ gK ≠ g4 ∧ gX ≠ g4 ∧ gF ≠ g4 by have := below_size HB.out; have := blk_lt HXK.out; have := blk_lt HXX.out; have := blk_lt HXF.out; omega); (try clear hck0); (try clear hcx0); (try clear hcx1); clear hbox hg_; have nHB_ := Aside0.mk (below_step HB.out hb); have nHXK_ := Aside0.mk (blk_below HXK.out hb); have nHXX_ := Aside0.mk (blk_below HXX.out hb); have nHXF_ := Aside0.mk (blk_below HXF.out hb); have nHM_ := Aside0.mk (HM.out.kept (grown_of_below hb none) (by simp)); clear HB HXK HXX HXF HM hb; have HB := nHB_; have HXK := nHXK_; have HXX := nHXX_; have HXF := nHXF_; have HM := nHM_; clear nHB_ nHXK_ nHXX_ nHXF_ nHM_; have hck0 := (blk_cell HXK.out 0).trans rfl; have hcx0 := (blk_cell HXX.out 0).trans rfl; have hcx1 := (blk_cell HXX.out 1).trans rfl; have hc40 := (blk_cell HX4.out 0).trans rfl; have hc41 := (blk_cell HX4.out 1).trans rfl; have HGM4 := Aside0.mk (show g4 ≠ gm by have := HGM.out; have := HG4.out; omega)) | (at_lookup; refine wpList_lookup_own_ok_int _ rfl _ _ 86 rfl 64 2 .i64 turnKeyed Tryd.underlying86 Tryd.underlying2 (zeroE _) gm N D rfl HM.out _ kl rfl HKL.out ?_; intro c1 hat hwc; have HAT := Aside0.mk hat; clear hat hwc; rw [HHAS.out]))
    have hc1 : c1 = netWin l s b := HMM.out _ kl c1 HKL.out HHAS.out HAT.out s b rfl
    go_ret
    exact ⟨by rw [hc1]; rfl, (HE.out.step HB.out).mono (by omega), grown_of_below HB.out _⟩
  | false =>
    generalize hov2 : ovV l s = ov at HOV hnw hor
    by_cases ho : ov = 0
    case neg =>
      have hoz : (ov == 0) = false := beq_eq_false_iff_ne.mpr ho
      rw [if_neg ho] at hnw
      have HNW := Aside0.mk hnw
      have HOR := Aside0.mk hor
      clear hnw how hb0 hb1 ho hov2 hor
      go_enter Tryd.func64, Tryd.ntmps64
      go_wp2_with (first | ((with_reducible refine gate_dst (N := 4) rfl ?_); refine box_event ?hg (N := 4) ?hd (cs := #[.string s, .bool b]) (t := 64) ?hr ?_; (case hd => rfl); (case hg => rfl); (case hr => first | (go_simp; done) | (go_simp; rfl)); intro g4 hg_ w_ hbox hb; have HX4 := Aside0.mk hbox; have HG4 := Aside0.mk (show w.heap.size ≤ g4 ∧ gK ≠ g4 ∧ gX ≠ g4 ∧ gF ≠ g4 by have := below_size HB.out; have := blk_lt HXK.out; have := blk_lt HXX.out; have := blk_lt HXF.out; omega); (try clear hck0); (try clear hcx0); (try clear hcx1); clear hbox hg_; have nHB_ := Aside0.mk (below_step HB.out hb); have nHXK_ := Aside0.mk (blk_below HXK.out hb); have nHXX_ := Aside0.mk (blk_below HXX.out hb); have nHXF_ := Aside0.mk (blk_below HXF.out hb); have nHM_ := Aside0.mk (HM.out.kept (grown_of_below hb none) (by simp)); clear HB HXK HXX HXF HM hb; have HB := nHB_; have HXK := nHXK_; have HXX := nHXX_; have HXF := nHXF_; have HM := nHM_; clear nHB_ nHXK_ nHXX_ nHXF_ nHM_; have hck0 := (blk_cell HXK.out 0).trans rfl; have hcx0 := (blk_cell HXX.out 0).trans rfl; have hcx1 := (blk_cell HXX.out 1).trans rfl; have hc40 := (blk_cell HX4.out 0).trans rfl; have hc41 := (blk_cell HX4.out 1).trans rfl; have HGM4 := Aside0.mk (show g4 ≠ gm by have := HGM.out; have := HG4.out; omega)) | (at_lookup; refine wpList_lookup_own_ok_int _ rfl _ _ 86 rfl 64 2 .i64 turnKeyed Tryd.underlying86 Tryd.underlying2 (zeroE _) gm N D rfl HM.out _ kl rfl HKL.out ?_; intro c1 hat hwc; have HAT := Aside0.mk hat; clear hat hwc; rw [HHAS.out]) | (go_at_call 36; refine (impl_Net_over.calls p A c l s ov _ (Kd.C_below HR.out (below_step HBW.out HB.out)) HC0.out HOV.out).mono ?_; rintro e w_ ⟨rfl, hb⟩; (try clear hck0); (try clear hcx0); (try clear hcx1); (try clear hc40); (try clear hc41); have nHB_ := Aside0.mk (below_step HB.out hb); have nHXK_ := Aside0.mk (blk_below HXK.out hb); have nHXX_ := Aside0.mk (blk_below HXX.out hb); have nHXF_ := Aside0.mk (blk_below HXF.out hb); have nHM_ := Aside0.mk (HM.out.kept (grown_of_below hb none) (by simp)); have nHX4_ := Aside0.mk (blk_below HX4.out hb); clear HB HXK HXX HXF HM HX4 hb; have HB := nHB_; have HXK := nHXK_; have HXX := nHXX_; have HXF := nHXF_; have HM := nHM_; have HX4 := nHX4_; clear nHB_ nHXK_ nHXX_ nHXF_ nHM_ nHX4_; have hck0 := (blk_cell HXK.out 0).trans rfl; have hcx0 := (blk_cell HXX.out 0).trans rfl; have hcx1 := (blk_cell HXX.out 1).trans rfl; have hc40 := (blk_cell HX4.out 0).trans rfl; have hc41 := (blk_cell HX4.out 1).trans rfl) | (at_mapUpdate; refine wpList_mapUpdate_own _ rfl _ _ _ 86 rfl 64 2 turnKeyed Tryd.underlying86 _ gm (N) _ rfl HM.out (by have := HNB.out; have := HCP.out; omega) _ _ kl rfl rfl HKL.out _ [] (plainElem_int Tryd.underlying2 (wf_small HOR.out.1 HOR.out.2)) ?_; intro w4_ hown4 hg4_; have HW4 := Aside0.mk hown4; have HG4_ := Aside0.mk hg4_; clear hown4 hg4_))
      go_ret
      exact ⟨by rw [HNW.out]; rfl, find_env (HE.out.step HB.out) HW4.out (HMM.out.put turnKeyed (HM.out.isMap) HKL.out (fun s' b' e => by injection e with e; injection e with e; simp only [List.cons.injEq, Value.string.injEq, Value.bool.injEq, and_true] at e; obtain ⟨rfl, rfl⟩ := e; exact HNW.out.symm)) HG4_.out (by have := HCP.out; omega), grown_after_below HB.out HG4_.out⟩
    case pos =>
      have hoz : (ov == 0) = true := beq_iff_eq.mpr ho
      rw [if_pos ho] at hnw
      obtain ⟨ow, hoe⟩ : ∃ ow : Int, ow = 2 - bv := ⟨_, rfl⟩
      rw [how, ← hoe] at hnw
      have HOW := Aside0.mk hoe
      have ho1 : 1 ≤ ow := by omega
      have ho2 : ow ≤ 2 := by omega
      obtain ⟨an, han⟩ : ∃ an, (freeV s).any (fun k => netWin l (afterV s k b) (!b) == ow) = an := ⟨_, rfl⟩
      rw [han] at hnw
      have HANY := Aside0.mk han
      have HNW := Aside0.mk hnw
      clear ho hov2 how hoe han hnw hor
      cases an with
      | true =>
        go_enter Tryd.func64, Tryd.ntmps64
        go_wp2_with (first | ((with_reducible refine gate_dst (N := 4) rfl ?_); refine box_event ?hg (N := 4) ?hd (cs := #[.string s, .bool b]) (t := 64) ?hr ?_; (case hd => rfl); (case hg => rfl); (case hr => first | (go_simp; done) | (go_simp; rfl)); intro g4 hg_ w_ hbox hb; have HX4 := Aside0.mk hbox; have HG4 := Aside0.mk (show w.heap.size ≤ g4 ∧ gK ≠ g4 ∧ gX ≠ g4 ∧ gF ≠ g4 by have := below_size HB.out; have := blk_lt HXK.out; have := blk_lt HXX.out; have := blk_lt HXF.out; omega); (try clear hck0); (try clear hcx0); (try clear hcx1); clear hbox hg_; have nHB_ := Aside0.mk (below_step HB.out hb); have nHXK_ := Aside0.mk (blk_below HXK.out hb); have nHXX_ := Aside0.mk (blk_below HXX.out hb); have nHXF_ := Aside0.mk (blk_below HXF.out hb); have nHM_ := Aside0.mk (HM.out.kept (grown_of_below hb none) (by simp)); clear HB HXK HXX HXF HM hb; have HB := nHB_; have HXK := nHXK_; have HXX := nHXX_; have HXF := nHXF_; have HM := nHM_; clear nHB_ nHXK_ nHXX_ nHXF_ nHM_; have hck0 := (blk_cell HXK.out 0).trans rfl; have hcx0 := (blk_cell HXX.out 0).trans rfl; have hcx1 := (blk_cell HXX.out 1).trans rfl; have hc40 := (blk_cell HX4.out 0).trans rfl; have hc41 := (blk_cell HX4.out 1).trans rfl; have HGM4 := Aside0.mk (show g4 ≠ gm by have := HGM.out; have := HG4.out; omega)) | (at_lookup; refine wpList_lookup_own_ok_int _ rfl _ _ 86 rfl 64 2 .i64 turnKeyed Tryd.underlying86 Tryd.underlying2 (zeroE _) gm N D rfl HM.out _ kl rfl HKL.out ?_; intro c1 hat hwc; have HAT := Aside0.mk hat; clear hat hwc; rw [HHAS.out]) | (go_at_call 36; refine (impl_Net_over.calls p A c l s ov _ (Kd.C_below HR.out (below_step HBW.out HB.out)) HC0.out HOV.out).mono ?_; rintro e w_ ⟨rfl, hb⟩; (try clear hck0); (try clear hcx0); (try clear hcx1); (try clear hc40); (try clear hc41); have nHB_ := Aside0.mk (below_step HB.out hb); have nHXK_ := Aside0.mk (blk_below HXK.out hb); have nHXX_ := Aside0.mk (blk_below HXX.out hb); have nHXF_ := Aside0.mk (blk_below HXF.out hb); have nHM_ := Aside0.mk (HM.out.kept (grown_of_below hb none) (by simp)); have nHX4_ := Aside0.mk (blk_below HX4.out hb); clear HB HXK HXX HXF HM HX4 hb; have HB := nHB_; have HXK := nHXK_; have HXX := nHXX_; have HXF := nHXF_; have HM := nHM_; have HX4 := nHX4_; clear nHB_ nHXK_ nHXX_ nHXF_ nHM_ nHX4_; have hck0 := (blk_cell HXK.out 0).trans rfl; have hcx0 := (blk_cell HXX.out 0).trans rfl; have hcx1 := (blk_cell HXX.out 1).trans rfl; have hc40 := (blk_cell HX4.out 0).trans rfl; have hc41 := (blk_cell HX4.out 1).trans rfl) | (go_at_call 65; refine (impl_bit.calls b bv _ HBV.out).mono ?_; rintro e w_ ⟨rfl, hd⟩; have hb := hd.below; clear hd; (try clear hck0); (try clear hcx0); (try clear hcx1); (try clear hc40); (try clear hc41); have nHB_ := Aside0.mk (below_step HB.out hb); have nHXK_ := Aside0.mk (blk_below HXK.out hb); have nHXX_ := Aside0.mk (blk_below HXX.out hb); have nHXF_ := Aside0.mk (blk_below HXF.out hb); have nHM_ := Aside0.mk (HM.out.kept (grown_of_below hb none) (by simp)); have nHX4_ := Aside0.mk (blk_below HX4.out hb); clear HB HXK HXX HXF HM HX4 hb; have HB := nHB_; have HXK := nHXK_; have HXX := nHXX_; have HXF := nHXF_; have HM := nHM_; have HX4 := nHX4_; clear nHB_ nHXK_ nHXX_ nHXF_ nHM_ nHX4_; have hck0 := (blk_cell HXK.out 0).trans rfl; have hcx0 := (blk_cell HXX.out 0).trans rfl; have hcx1 := (blk_cell HXX.out 1).trans rfl; have hc40 := (blk_cell HX4.out 0).trans rfl; have hc41 := (blk_cell HX4.out 1).trans rfl) | ((with_reducible refine gate_dst (N := 9) rfl ?_); refine box_event ?hg (N := 9) ?hd (cs := #[.int .i64 0]) (t := 2) ?hr ?_; (case hd => rfl); (case hg => rfl); (case hr => first | (go_simp; done) | (go_simp; rfl)); intro g9 hg_ w_ hbox hb; have HX9 := Aside0.mk hbox; have HG9 := Aside0.mk (show w.heap.size ≤ g9 ∧ gm < w.heap.size ∧ gK ≠ g9 ∧ gX ≠ g9 ∧ gF ≠ g9 ∧ g4 ≠ g9 by have := below_size HB.out; have := HGM.out; have := blk_lt HXK.out; have := blk_lt HXX.out; have := blk_lt HXF.out; have := blk_lt HX4.out; omega); (try clear hck0); (try clear hcx0); (try clear hcx1); (try clear hc40); (try clear hc41); clear hbox hg_; have nHB_ := Aside0.mk (below_step HB.out hb); have nHXK_ := Aside0.mk (blk_below HXK.out hb); have nHXX_ := Aside0.mk (blk_below HXX.out hb); have nHXF_ := Aside0.mk (blk_below HXF.out hb); have nHM_ := Aside0.mk (HM.out.kept (grown_of_below hb none) (by simp)); have nHX4_ := Aside0.mk (blk_below HX4.out hb); clear HB HXK HXX HXF HM HX4 hb; have HB := nHB_; have HXK := nHXK_; have HXX := nHXX_; have HXF := nHXF_; have HM := nHM_; have HX4 := nHX4_; clear nHB_ nHXK_ nHXX_ nHXF_ nHM_ nHX4_; have hck0 := (blk_cell HXK.out 0).trans rfl; have hcx0 := (blk_cell HXX.out 0).trans rfl; have hcx1 := (blk_cell HXX.out 1).trans rfl; have hc40 := (blk_cell HX4.out 0).trans rfl; have hc41 := (blk_cell HX4.out 1).trans rfl; have hc90 := (blk_cell HX9.out 0).trans rfl; have HGM9 := Aside0.mk (show gm ≠ g9 by have := HGM.out; have := HG9.out; omega)) | ((with_reducible refine gate_store (t := 2) (p := 9) rfl ?_); have hfz_ := blk_frozen HX9.out 0; refine store_event (t := 2) (p := 9) (v := .tmp 27) (w1 := (w_.setCell ⟨g9, 0, none⟩ (.int .i64 (2 - bv)))) ?hg ?ho ?hn ?hr ?_; (case ho => rfl); (case hg => rfl); (case hn => rfl); (case hr => first | (go_simp; done) | (go_simp; rfl)); intro w2_ hw_; clear hfz_; have nHB_ := Aside0.mk ((below_set HB.out HG9.out.1 : Below w.heap.size w (w_.setCell ⟨g9, 0, none⟩ (.int .i64 (2 - bv))))); have nHXK_ := Aside0.mk (blk_far (p := ⟨g9, 0, none⟩) HXK.out (show gK ≠ g9 by have := HG9.out; omega) (.int .i64 (2 - bv))); have nHXX_ := Aside0.mk (blk_far (p := ⟨g9, 0, none⟩) HXX.out (show gX ≠ g9 by have := HG9.out; omega) (.int .i64 (2 - bv))); have nHXF_ := Aside0.mk (blk_far (p := ⟨g9, 0, none⟩) HXF.out (show gF ≠ g9 by have := HG9.out; omega) (.int .i64 (2 - bv))); have nHM_ := Aside0.mk (HM.out.setCell (a := ⟨g9, 0, none⟩) (show gm ≠ g9 by have := HG9.out; omega) (.int .i64 (2 - bv))); have nHX4_ := Aside0.mk (blk_far (p := ⟨g9, 0, none⟩) HX4.out (show g4 ≠ g9 by have := HG9.out; omega) (.int .i64 (2 - bv))); have nHX9_ := Aside0.mk (blk_put HX9.out 0 (.int .i64 (2 - bv)) rfl); replace nHB_ := nHB_.out; rw [← hw_] at nHB_; replace nHXK_ := nHXK_.out; rw [← hw_] at nHXK_; replace nHXX_ := nHXX_.out; rw [← hw_] at nHXX_; replace nHXF_ := nHXF_.out; rw [← hw_] at nHXF_; replace nHM_ := nHM_.out; rw [← hw_] at nHM_; replace nHX4_ := nHX4_.out; rw [← hw_] at nHX4_; replace nHX9_ := nHX9_.out; rw [← hw_] at nHX9_; (try clear hck0); (try clear hcx0); (try clear hcx1); (try clear hc40); (try clear hc41); (try clear hc90); clear hw_ HB HXK HXX HXF HM HX4 HX9; have HB := Aside0.mk nHB_; have HXK := Aside0.mk nHXK_; have HXX := Aside0.mk nHXX_; have HXF := Aside0.mk nHXF_; have HM := Aside0.mk nHM_; have HX4 := Aside0.mk nHX4_; have HX9 := Aside0.mk nHX9_; clear nHB_ nHXK_ nHXX_ nHXF_ nHM_ nHX4_ nHX9_; have hck0 := (blk_cell HXK.out 0).trans rfl; have hcx0 := (blk_cell HXX.out 0).trans rfl; have hcx1 := (blk_cell HXX.out 1).trans rfl; have hc40 := (blk_cell HX4.out 0).trans rfl; have hc41 := (blk_cell HX4.out 1).trans rfl; have hc90 := (blk_cell HX9.out 0).trans rfl; have t_ := HX9.out; rw [← HOW.out] at t_; clear HX9 hc90; have HX9 := Aside0.mk t_; clear t_; have hc90 := (blk_cell HX9.out 0).trans rfl; clear hb0 hb1) | (go_at_call 49; refine (impl_turn_open.calls s b (freeV s) _ HFR.out).mono ?_; rintro e w_ ⟨v31, rfl, ho, hb⟩; obtain ⟨A31, c31, e31⟩ := Kd.R_slice ho; subst e31; have HO := Aside0.mk (Kd.R_lower ho (below_size HB.out)); clear ho; (try clear hck0); (try clear hcx0); (try clear hcx1); (try clear hc40); (try clear hc41); (try clear hc90); have nHB_ := Aside0.mk (below_step HB.out hb); have nHXK_ := Aside0.mk (blk_below HXK.out hb); have nHXX_ := Aside0.mk (blk_below HXX.out hb); have nHXF_ := Aside0.mk (blk_below HXF.out hb); have nHM_ := Aside0.mk (HM.out.kept (grown_of_below hb none) (by simp)); have nHX4_ := Aside0.mk (blk_below HX4.out hb); have nHX9_ := Aside0.mk (blk_below HX9.out hb); clear HB HXK HXX HXF HM HX4 HX9 hb; have HB := nHB_; have HXK := nHXK_; have HXX := nHXX_; have HXF := nHXF_; have HM := nHM_; have HX4 := nHX4_; have HX9 := nHX9_; clear nHB_ nHXK_ nHXX_ nHXF_ nHM_ nHX4_ nHX9_; have hck0 := (blk_cell HXK.out 0).trans rfl; have hcx0 := (blk_cell HXX.out 0).trans rfl; have hcx1 := (blk_cell HXX.out 1).trans rfl; have hc40 := (blk_cell HX4.out 0).trans rfl; have hc41 := (blk_cell HX4.out 1).trans rfl; have hc90 := (blk_cell HX9.out 0).trans rfl) | (go_at_call 66; have HE1 := Aside0.mk (WinEnv.step HE.out HB.out); refine (slices_ContainsFunc_int64_int64_66.callsI 67 _ (fun k => netWin l (afterV s k b) (!b) == ow) eg_wpred (WinI w0 gK gX gF gm p A c l d N w_) A31 c31 (freeV s) _ ⟨HE1.out.mono (Nat.le_add_right _ _), grown_refl_some _ _⟩ (winI_pred w0 gK gX gF gm p A c l d HIH.out HL10.out g4 g9 s b ow N _ (HD.out) HSS.out HX4.out HX9.out (by have := HGM.out; have := HG4.out; have := HG9.out; omega) HNB.out) (fun i W hI => winI_reads HO.out HGM.out hI) (by have := HFL.out; omega)).mono ?_; rintro e w3_ ⟨rfl, i, hi, hE3, hG3⟩; rw [HANY.out]; have HE3 := Aside0.mk hE3; have HG3_ := Aside0.mk hG3; have HII := Aside0.mk hi; have HG4B := Aside0.mk (blk_grownB HX4.out hG3 (by have := HGM.out; have := HG4.out; omega)); have HG9B := Aside0.mk (blk_grownB HX9.out hG3 (by have := HGM.out; have := HG9.out; omega)); have HB3 := Aside0.mk (grown_after_below HB.out hG3); obtain ⟨D2, hown2, hmem2⟩ := hE3.memo; have HM2 := Aside0.mk hown2; have HMM2 := Aside0.mk hmem2; (try clear hck0); (try clear hcx0); (try clear hcx1); (try clear hc40); (try clear hc41); (try clear hc90); clear hE3 hG3 hi hown2 hmem2 HM HX4 HX9 HXK HXX HXF; have hck0 := (blk_cell HE3.out.hk 0).trans rfl; have hc40 := (blk_cell HG4B.out 0).trans rfl; have hc41 := (blk_cell HG4B.out 1).trans rfl; have hc90 := (blk_cell HG9B.out 0).trans rfl) | (at_mapUpdate; refine wpList_mapUpdate_own _ rfl _ _ _ 86 rfl 64 2 turnKeyed Tryd.underlying86 _ gm (N + i * winCnt (d - 1)) _ rfl HM2.out (by have := HNB.out; have := HCP.out; have := cnt_last HII.out HD.out; omega) _ _ kl rfl rfl HKL.out _ [] (plainElem_int Tryd.underlying2 (wf_small (v := ow) (by omega) (by omega))) ?_; intro w4_ hown4 hg4_; have HW4 := Aside0.mk hown4; have HG4_ := Aside0.mk hg4_; clear hown4 hg4_))
        go_ret
        exact ⟨by rw [HNW.out]; rfl, find_env HE3.out HW4.out (HMM2.out.put turnKeyed (HM2.out.isMap) HKL.out (fun s' b' e => by injection e with e; injection e with e; simp only [List.cons.injEq, Value.string.injEq, Value.bool.injEq, and_true] at e; obtain ⟨rfl, rfl⟩ := e; rw [HNW.out]; rfl)) HG4_.out (by have := cnt_last HII.out HD.out; omega), HB3.out.trans HG4_.out⟩
      | false =>
        go_enter Tryd.func64, Tryd.ntmps64
        go_wp2_with (first | ((with_reducible refine gate_dst (N := 4) rfl ?_); refine box_event ?hg (N := 4) ?hd (cs := #[.string s, .bool b]) (t := 64) ?hr ?_; (case hd => rfl); (case hg => rfl); (case hr => first | (go_simp; done) | (go_simp; rfl)); intro g4 hg_ w_ hbox hb; have HX4 := Aside0.mk hbox; have HG4 := Aside0.mk (show w.heap.size ≤ g4 ∧ gK ≠ g4 ∧ gX ≠ g4 ∧ gF ≠ g4 by have := below_size HB.out; have := blk_lt HXK.out; have := blk_lt HXX.out; have := blk_lt HXF.out; omega); (try clear hck0); (try clear hcx0); (try clear hcx1); clear hbox hg_; have nHB_ := Aside0.mk (below_step HB.out hb); have nHXK_ := Aside0.mk (blk_below HXK.out hb); have nHXX_ := Aside0.mk (blk_below HXX.out hb); have nHXF_ := Aside0.mk (blk_below HXF.out hb); have nHM_ := Aside0.mk (HM.out.kept (grown_of_below hb none) (by simp)); clear HB HXK HXX HXF HM hb; have HB := nHB_; have HXK := nHXK_; have HXX := nHXX_; have HXF := nHXF_; have HM := nHM_; clear nHB_ nHXK_ nHXX_ nHXF_ nHM_; have hck0 := (blk_cell HXK.out 0).trans rfl; have hcx0 := (blk_cell HXX.out 0).trans rfl; have hcx1 := (blk_cell HXX.out 1).trans rfl; have hc40 := (blk_cell HX4.out 0).trans rfl; have hc41 := (blk_cell HX4.out 1).trans rfl; have HGM4 := Aside0.mk (show g4 ≠ gm by have := HGM.out; have := HG4.out; omega)) | (at_lookup; refine wpList_lookup_own_ok_int _ rfl _ _ 86 rfl 64 2 .i64 turnKeyed Tryd.underlying86 Tryd.underlying2 (zeroE _) gm N D rfl HM.out _ kl rfl HKL.out ?_; intro c1 hat hwc; have HAT := Aside0.mk hat; clear hat hwc; rw [HHAS.out]) | (go_at_call 36; refine (impl_Net_over.calls p A c l s ov _ (Kd.C_below HR.out (below_step HBW.out HB.out)) HC0.out HOV.out).mono ?_; rintro e w_ ⟨rfl, hb⟩; (try clear hck0); (try clear hcx0); (try clear hcx1); (try clear hc40); (try clear hc41); have nHB_ := Aside0.mk (below_step HB.out hb); have nHXK_ := Aside0.mk (blk_below HXK.out hb); have nHXX_ := Aside0.mk (blk_below HXX.out hb); have nHXF_ := Aside0.mk (blk_below HXF.out hb); have nHM_ := Aside0.mk (HM.out.kept (grown_of_below hb none) (by simp)); have nHX4_ := Aside0.mk (blk_below HX4.out hb); clear HB HXK HXX HXF HM HX4 hb; have HB := nHB_; have HXK := nHXK_; have HXX := nHXX_; have HXF := nHXF_; have HM := nHM_; have HX4 := nHX4_; clear nHB_ nHXK_ nHXX_ nHXF_ nHM_ nHX4_; have hck0 := (blk_cell HXK.out 0).trans rfl; have hcx0 := (blk_cell HXX.out 0).trans rfl; have hcx1 := (blk_cell HXX.out 1).trans rfl; have hc40 := (blk_cell HX4.out 0).trans rfl; have hc41 := (blk_cell HX4.out 1).trans rfl) | (go_at_call 65; refine (impl_bit.calls b bv _ HBV.out).mono ?_; rintro e w_ ⟨rfl, hd⟩; have hb := hd.below; clear hd; (try clear hck0); (try clear hcx0); (try clear hcx1); (try clear hc40); (try clear hc41); have nHB_ := Aside0.mk (below_step HB.out hb); have nHXK_ := Aside0.mk (blk_below HXK.out hb); have nHXX_ := Aside0.mk (blk_below HXX.out hb); have nHXF_ := Aside0.mk (blk_below HXF.out hb); have nHM_ := Aside0.mk (HM.out.kept (grown_of_below hb none) (by simp)); have nHX4_ := Aside0.mk (blk_below HX4.out hb); clear HB HXK HXX HXF HM HX4 hb; have HB := nHB_; have HXK := nHXK_; have HXX := nHXX_; have HXF := nHXF_; have HM := nHM_; have HX4 := nHX4_; clear nHB_ nHXK_ nHXX_ nHXF_ nHM_ nHX4_; have hck0 := (blk_cell HXK.out 0).trans rfl; have hcx0 := (blk_cell HXX.out 0).trans rfl; have hcx1 := (blk_cell HXX.out 1).trans rfl; have hc40 := (blk_cell HX4.out 0).trans rfl; have hc41 := (blk_cell HX4.out 1).trans rfl) | ((with_reducible refine gate_dst (N := 9) rfl ?_); refine box_event ?hg (N := 9) ?hd (cs := #[.int .i64 0]) (t := 2) ?hr ?_; (case hd => rfl); (case hg => rfl); (case hr => first | (go_simp; done) | (go_simp; rfl)); intro g9 hg_ w_ hbox hb; have HX9 := Aside0.mk hbox; have HG9 := Aside0.mk (show w.heap.size ≤ g9 ∧ gm < w.heap.size ∧ gK ≠ g9 ∧ gX ≠ g9 ∧ gF ≠ g9 ∧ g4 ≠ g9 by have := below_size HB.out; have := HGM.out; have := blk_lt HXK.out; have := blk_lt HXX.out; have := blk_lt HXF.out; have := blk_lt HX4.out; omega); (try clear hck0); (try clear hcx0); (try clear hcx1); (try clear hc40); (try clear hc41); clear hbox hg_; have nHB_ := Aside0.mk (below_step HB.out hb); have nHXK_ := Aside0.mk (blk_below HXK.out hb); have nHXX_ := Aside0.mk (blk_below HXX.out hb); have nHXF_ := Aside0.mk (blk_below HXF.out hb); have nHM_ := Aside0.mk (HM.out.kept (grown_of_below hb none) (by simp)); have nHX4_ := Aside0.mk (blk_below HX4.out hb); clear HB HXK HXX HXF HM HX4 hb; have HB := nHB_; have HXK := nHXK_; have HXX := nHXX_; have HXF := nHXF_; have HM := nHM_; have HX4 := nHX4_; clear nHB_ nHXK_ nHXX_ nHXF_ nHM_ nHX4_; have hck0 := (blk_cell HXK.out 0).trans rfl; have hcx0 := (blk_cell HXX.out 0).trans rfl; have hcx1 := (blk_cell HXX.out 1).trans rfl; have hc40 := (blk_cell HX4.out 0).trans rfl; have hc41 := (blk_cell HX4.out 1).trans rfl; have hc90 := (blk_cell HX9.out 0).trans rfl; have HGM9 := Aside0.mk (show gm ≠ g9 by have := HGM.out; have := HG9.out; omega)) | ((with_reducible refine gate_store (t := 2) (p := 9) rfl ?_); have hfz_ := blk_frozen HX9.out 0; refine store_event (t := 2) (p := 9) (v := .tmp 27) (w1 := (w_.setCell ⟨g9, 0, none⟩ (.int .i64 (2 - bv)))) ?hg ?ho ?hn ?hr ?_; (case ho => rfl); (case hg => rfl); (case hn => rfl); (case hr => first | (go_simp; done) | (go_simp; rfl)); intro w2_ hw_; clear hfz_; have nHB_ := Aside0.mk ((below_set HB.out HG9.out.1 : Below w.heap.size w (w_.setCell ⟨g9, 0, none⟩ (.int .i64 (2 - bv))))); have nHXK_ := Aside0.mk (blk_far (p := ⟨g9, 0, none⟩) HXK.out (show gK ≠ g9 by have := HG9.out; omega) (.int .i64 (2 - bv))); have nHXX_ := Aside0.mk (blk_far (p := ⟨g9, 0, none⟩) HXX.out (show gX ≠ g9 by have := HG9.out; omega) (.int .i64 (2 - bv))); have nHXF_ := Aside0.mk (blk_far (p := ⟨g9, 0, none⟩) HXF.out (show gF ≠ g9 by have := HG9.out; omega) (.int .i64 (2 - bv))); have nHM_ := Aside0.mk (HM.out.setCell (a := ⟨g9, 0, none⟩) (show gm ≠ g9 by have := HG9.out; omega) (.int .i64 (2 - bv))); have nHX4_ := Aside0.mk (blk_far (p := ⟨g9, 0, none⟩) HX4.out (show g4 ≠ g9 by have := HG9.out; omega) (.int .i64 (2 - bv))); have nHX9_ := Aside0.mk (blk_put HX9.out 0 (.int .i64 (2 - bv)) rfl); replace nHB_ := nHB_.out; rw [← hw_] at nHB_; replace nHXK_ := nHXK_.out; rw [← hw_] at nHXK_; replace nHXX_ := nHXX_.out; rw [← hw_] at nHXX_; replace nHXF_ := nHXF_.out; rw [← hw_] at nHXF_; replace nHM_ := nHM_.out; rw [← hw_] at nHM_; replace nHX4_ := nHX4_.out; rw [← hw_] at nHX4_; replace nHX9_ := nHX9_.out; rw [← hw_] at nHX9_; (try clear hck0); (try clear hcx0); (try clear hcx1); (try clear hc40); (try clear hc41); (try clear hc90); clear hw_ HB HXK HXX HXF HM HX4 HX9; have HB := Aside0.mk nHB_; have HXK := Aside0.mk nHXK_; have HXX := Aside0.mk nHXX_; have HXF := Aside0.mk nHXF_; have HM := Aside0.mk nHM_; have HX4 := Aside0.mk nHX4_; have HX9 := Aside0.mk nHX9_; clear nHB_ nHXK_ nHXX_ nHXF_ nHM_ nHX4_ nHX9_; have hck0 := (blk_cell HXK.out 0).trans rfl; have hcx0 := (blk_cell HXX.out 0).trans rfl; have hcx1 := (blk_cell HXX.out 1).trans rfl; have hc40 := (blk_cell HX4.out 0).trans rfl; have hc41 := (blk_cell HX4.out 1).trans rfl; have hc90 := (blk_cell HX9.out 0).trans rfl; have t_ := HX9.out; rw [← HOW.out] at t_; clear HX9 hc90; have HX9 := Aside0.mk t_; clear t_; have hc90 := (blk_cell HX9.out 0).trans rfl; clear hb0 hb1) | (go_at_call 49; refine (impl_turn_open.calls s b (freeV s) _ HFR.out).mono ?_; rintro e w_ ⟨v31, rfl, ho, hb⟩; obtain ⟨A31, c31, e31⟩ := Kd.R_slice ho; subst e31; have HO := Aside0.mk (Kd.R_lower ho (below_size HB.out)); clear ho; (try clear hck0); (try clear hcx0); (try clear hcx1); (try clear hc40); (try clear hc41); (try clear hc90); have nHB_ := Aside0.mk (below_step HB.out hb); have nHXK_ := Aside0.mk (blk_below HXK.out hb); have nHXX_ := Aside0.mk (blk_below HXX.out hb); have nHXF_ := Aside0.mk (blk_below HXF.out hb); have nHM_ := Aside0.mk (HM.out.kept (grown_of_below hb none) (by simp)); have nHX4_ := Aside0.mk (blk_below HX4.out hb); have nHX9_ := Aside0.mk (blk_below HX9.out hb); clear HB HXK HXX HXF HM HX4 HX9 hb; have HB := nHB_; have HXK := nHXK_; have HXX := nHXX_; have HXF := nHXF_; have HM := nHM_; have HX4 := nHX4_; have HX9 := nHX9_; clear nHB_ nHXK_ nHXX_ nHXF_ nHM_ nHX4_ nHX9_; have hck0 := (blk_cell HXK.out 0).trans rfl; have hcx0 := (blk_cell HXX.out 0).trans rfl; have hcx1 := (blk_cell HXX.out 1).trans rfl; have hc40 := (blk_cell HX4.out 0).trans rfl; have hc41 := (blk_cell HX4.out 1).trans rfl; have hc90 := (blk_cell HX9.out 0).trans rfl) | (go_at_call 66; have HE1 := Aside0.mk (WinEnv.step HE.out HB.out); refine (slices_ContainsFunc_int64_int64_66.callsI 67 _ (fun k => netWin l (afterV s k b) (!b) == ow) eg_wpred (WinI w0 gK gX gF gm p A c l d N w_) A31 c31 (freeV s) _ ⟨HE1.out.mono (Nat.le_add_right _ _), grown_refl_some _ _⟩ (winI_pred w0 gK gX gF gm p A c l d HIH.out HL10.out g4 g9 s b ow N _ (HD.out) HSS.out HX4.out HX9.out (by have := HGM.out; have := HG4.out; have := HG9.out; omega) HNB.out) (fun i W hI => winI_reads HO.out HGM.out hI) (by have := HFL.out; omega)).mono ?_; rintro e w3_ ⟨rfl, i, hi, hE3, hG3⟩; rw [HANY.out]; have HE3 := Aside0.mk hE3; have HG3_ := Aside0.mk hG3; have HII := Aside0.mk hi; have HG4B := Aside0.mk (blk_grownB HX4.out hG3 (by have := HGM.out; have := HG4.out; omega)); have HG9B := Aside0.mk (blk_grownB HX9.out hG3 (by have := HGM.out; have := HG9.out; omega)); have HB3 := Aside0.mk (grown_after_below HB.out hG3); obtain ⟨D2, hown2, hmem2⟩ := hE3.memo; have HM2 := Aside0.mk hown2; have HMM2 := Aside0.mk hmem2; (try clear hck0); (try clear hcx0); (try clear hcx1); (try clear hc40); (try clear hc41); (try clear hc90); clear hE3 hG3 hi hown2 hmem2 HM HX4 HX9 HXK HXX HXF; have hck0 := (blk_cell HE3.out.hk 0).trans rfl; have hc40 := (blk_cell HG4B.out 0).trans rfl; have hc41 := (blk_cell HG4B.out 1).trans rfl; have hc90 := (blk_cell HG9B.out 0).trans rfl) | (at_mapUpdate; refine wpList_mapUpdate_own _ rfl _ _ _ 86 rfl 64 2 turnKeyed Tryd.underlying86 _ gm (N + i * winCnt (d - 1)) _ rfl HM2.out (by have := HNB.out; have := HCP.out; have := cnt_last HII.out HD.out; omega) _ _ kl rfl rfl HKL.out _ [] (plainElem_int Tryd.underlying2 (wf_small (v := 3 - ow) (by omega) (by omega))) ?_; intro w4_ hown4 hg4_; have HW4 := Aside0.mk hown4; have HG4_ := Aside0.mk hg4_; clear hown4 hg4_))
        go_ret
        exact ⟨by rw [HNW.out]; rfl, find_env HE3.out HW4.out (HMM2.out.put turnKeyed (HM2.out.isMap) HKL.out (fun s' b' e => by injection e with e; injection e with e; simp only [List.cons.injEq, Value.string.injEq, Value.bool.injEq, and_true] at e; obtain ⟨rfl, rfl⟩ := e; rw [HNW.out]; rfl)) HG4_.out (by have := cnt_last HII.out HD.out; omega), HB3.out.trans HG4_.out⟩
theorem find_all (w0 : World) (gK gX gF gm : Nat) (p : Int) (A : Option Addr) (c : Nat) (l : List (List Int)) (hv : isNetV p l = true) (hr : Kd.C (Kd.slice 2 (Kd.int .i64)) w0 A l.length l) (hc : l.length ≤ c) : ∀ d, FindDoes w0 gK gX gF gm p A c l d
  | 0 => find_step w0 gK gX gF gm p A c l hv hr hc 0 (fun h => absurd rfl h)
  | d + 1 => find_step w0 gK gX gF gm p A c l hv hr hc (d + 1) (fun _ => find_all w0 gK gX gF gm p A c l hv hr hc d)
set_option maxHeartbeats 8000000 in
set_option maxRecDepth 100000 in
theorem impl_Net_winners.calls (p : Int) (A : Option Addr) (c : Nat) (l : List (List Int)) (w : World) :
    Calls Tryd.prog 41 #[.agg #[.int .i64 p, .slice A l.length c]] w fun e w' => ∃ gK gX gF gm : Nat, e = .returned (.func (.func 64) #[] #[.pointer (some ⟨gK, 0, none⟩), .pointer (some ⟨gX, 0, none⟩), .pointer (some ⟨gF, 0, none⟩)]) ∧ WinEnv w gK gX gF gm p A c l 0 w' := by
  have HB := Aside0.mk (Below.refl w.heap.size w)
  have hmm := @run_makeMap Tryd.prog
  have hu2 := Tryd.underlying28
  have hrs := fun (w : World) (a : Addr) (m : Mode) (g : Option Nat) => @run_store_map_ Tryd.prog w a m g
  have hrf := fun (w : World) (a : Addr) (m : Mode) (f : Fn) (t b : Array Value) => @run_store_func Tryd.prog w a m f t b
  go_enter Tryd.func41, Tryd.ntmps41
  go_wp2_with (first | ((with_reducible refine gate_dst (N := 1) rfl ?_); refine box_event ?hg (N := 1) ?hd (cs := #[.int .i64 p, .slice A l.length c]) (t := 28) ?hr ?_; (case hd => rfl); (case hg => rfl); (case hr => first | (go_simp; done) | (go_simp; rfl)); intro gX hg_ w_ hbox hb; have HXX := Aside0.mk hbox; have HGX := Aside0.mk (show w.heap.size ≤ gX by have := below_size HB.out; omega); clear hbox hg_; have nHB_ := Aside0.mk (below_step HB.out hb); clear HB hb; have HB := nHB_; clear nHB_; have hcx0 := (blk_cell HXX.out 0).trans rfl; have hcx1 := (blk_cell HXX.out 1).trans rfl) | ((with_reducible refine gate_dst (N := 5) rfl ?_); refine made_event ?hg (N := 5) ?hd 64 (plainElem Tryd.prog 2) ?hr ?_; (case hd => rfl); (case hg => rfl); (case hr => first | (go_simp; done) | (go_simp; rfl)); intro gm hgm wm hown hb; have HGM := Aside0.mk (show w.heap.size ≤ gm ∧ gX ≠ gm by have := below_size HB.out; have := blk_lt HXX.out; omega); have HM := Aside0.mk hown; (try clear hcx0); (try clear hcx1); clear hown hgm; have nHB_ := Aside0.mk (below_step HB.out hb); have nHXX_ := Aside0.mk (blk_below HXX.out hb); clear HB HXX hb; have HB := nHB_; have HXX := nHXX_; clear nHB_ nHXX_; have hcx0 := (blk_cell HXX.out 0).trans rfl; have hcx1 := (blk_cell HXX.out 1).trans rfl) | ((with_reducible refine gate_dst (N := 3) rfl ?_); refine box_event ?hg (N := 3) ?hd (cs := #[.map none]) (t := 86) ?hr ?_; (case hd => rfl); (case hg => rfl); (case hr => first | (go_simp; done) | (go_simp; rfl)); intro gK hg_ w_ hbox hb; have HXK := Aside0.mk hbox; have HGK := Aside0.mk (show w.heap.size ≤ gK ∧ gX ≠ gK by have := below_size HB.out; have := blk_lt HXX.out; omega); have HGKM := Aside0.mk (show gm ≠ gK by have := HM.out.lt; omega); (try clear hcx0); (try clear hcx1); clear hbox hg_; have nHB_ := Aside0.mk (below_step HB.out hb); have nHXX_ := Aside0.mk (blk_below HXX.out hb); have nHM_ := Aside0.mk (HM.out.kept (grown_of_below hb none) (by simp)); clear HB HXX HM hb; have HB := nHB_; have HXX := nHXX_; have HM := nHM_; clear nHB_ nHXX_ nHM_; have hcx0 := (blk_cell HXX.out 0).trans rfl; have hcx1 := (blk_cell HXX.out 1).trans rfl; have hck0 := (blk_cell HXK.out 0).trans rfl) | ((with_reducible refine gate_store (t := 86) (p := 3) rfl ?_); have hfz_ := blk_frozen HXK.out 0; refine store_event (t := 86) (p := 3) (v := .tmp 5) (w1 := (w_.setCell ⟨gK, 0, none⟩ (.map (some gm)))) ?hg ?ho ?hn ?hr ?_; (case ho => rfl); (case hg => rfl); (case hn => rfl); (case hr => first | (go_simp; done) | (go_simp; rfl)); intro w2_ hw_; clear hfz_; have nHB_ := Aside0.mk ((below_set HB.out HGK.out.1 : Below w.heap.size w (w_.setCell ⟨gK, 0, none⟩ (.map (some gm))))); have nHXX_ := Aside0.mk (blk_far (p := ⟨gK, 0, none⟩) HXX.out (show gX ≠ gK by have := HGK.out; omega) (.map (some gm))); have nHM_ := Aside0.mk (HM.out.setCell (a := ⟨gK, 0, none⟩) (HGKM.out) (.map (some gm))); have nHXK_ := Aside0.mk (blk_put HXK.out 0 (.map (some gm)) rfl); replace nHB_ := nHB_.out; rw [← hw_] at nHB_; replace nHXX_ := nHXX_.out; rw [← hw_] at nHXX_; replace nHM_ := nHM_.out; rw [← hw_] at nHM_; replace nHXK_ := nHXK_.out; rw [← hw_] at nHXK_; (try clear hcx0); (try clear hcx1); (try clear hck0); clear hw_ HB HXX HM HXK; have HB := Aside0.mk nHB_; have HXX := Aside0.mk nHXX_; have HM := Aside0.mk nHM_; have HXK := Aside0.mk nHXK_; clear nHB_ nHXX_ nHM_ nHXK_; have hcx0 := (blk_cell HXX.out 0).trans rfl; have hcx1 := (blk_cell HXX.out 1).trans rfl; have hck0 := (blk_cell HXK.out 0).trans rfl) | ((with_reducible refine gate_dst (N := 4) rfl ?_); refine box_event ?hg (N := 4) ?hd (cs := #[.nilFunc]) (t := 61) ?hr ?_; (case hd => rfl); (case hg => rfl); (case hr => first | (go_simp; done) | (go_simp; rfl)); intro gF hg_ w_ hbox hb; have HXF := Aside0.mk hbox; have HGF := Aside0.mk (show w.heap.size ≤ gF ∧ gX ≠ gF ∧ gK ≠ gF by have := below_size HB.out; have := blk_lt HXX.out; have := blk_lt HXK.out; omega); have HGFM := Aside0.mk (show gm ≠ gF by have := HM.out.lt; omega); (try clear hcx0); (try clear hcx1); (try clear hck0); clear hbox hg_; have nHB_ := Aside0.mk (below_step HB.out hb); have nHXX_ := Aside0.mk (blk_below HXX.out hb); have nHM_ := Aside0.mk (HM.out.kept (grown_of_below hb none) (by simp)); have nHXK_ := Aside0.mk (blk_below HXK.out hb); clear HB HXX HM HXK hb; have HB := nHB_; have HXX := nHXX_; have HM := nHM_; have HXK := nHXK_; clear nHB_ nHXX_ nHM_ nHXK_; have hcx0 := (blk_cell HXX.out 0).trans rfl; have hcx1 := (blk_cell HXX.out 1).trans rfl; have hck0 := (blk_cell HXK.out 0).trans rfl; have hcf0 := (blk_cell HXF.out 0).trans rfl) | ((with_reducible refine gate_store (t := 61) (p := 4) rfl ?_); have hfz_ := blk_frozen HXF.out 0; refine store_event (t := 61) (p := 4) (v := .tmp 6) (w1 := (w_.setCell ⟨gF, 0, none⟩ (.func (.func 64) #[] #[.pointer (some ⟨gK, 0, none⟩), .pointer (some ⟨gX, 0, none⟩), .pointer (some ⟨gF, 0, none⟩)]))) ?hg ?ho ?hn ?hr ?_; (case ho => rfl); (case hg => rfl); (case hn => rfl); (case hr => first | (go_simp; done) | (go_simp; rfl)); intro w2_ hw_; clear hfz_; have nHB_ := Aside0.mk ((below_set HB.out HGF.out.1 : Below w.heap.size w (w_.setCell ⟨gF, 0, none⟩ (.func (.func 64) #[] #[.pointer (some ⟨gK, 0, none⟩), .pointer (some ⟨gX, 0, none⟩), .pointer (some ⟨gF, 0, none⟩)])))); have nHXX_ := Aside0.mk (blk_far (p := ⟨gF, 0, none⟩) HXX.out (show gX ≠ gF by have := HGF.out; omega) (.func (.func 64) #[] #[.pointer (some ⟨gK, 0, none⟩), .pointer (some ⟨gX, 0, none⟩), .pointer (some ⟨gF, 0, none⟩)])); have nHM_ := Aside0.mk (HM.out.setCell (a := ⟨gF, 0, none⟩) (HGFM.out) (.func (.func 64) #[] #[.pointer (some ⟨gK, 0, none⟩), .pointer (some ⟨gX, 0, none⟩), .pointer (some ⟨gF, 0, none⟩)])); have nHXK_ := Aside0.mk (blk_far (p := ⟨gF, 0, none⟩) HXK.out (show gK ≠ gF by have := HGF.out; omega) (.func (.func 64) #[] #[.pointer (some ⟨gK, 0, none⟩), .pointer (some ⟨gX, 0, none⟩), .pointer (some ⟨gF, 0, none⟩)])); have nHXF_ := Aside0.mk (blk_put HXF.out 0 (.func (.func 64) #[] #[.pointer (some ⟨gK, 0, none⟩), .pointer (some ⟨gX, 0, none⟩), .pointer (some ⟨gF, 0, none⟩)]) rfl); replace nHB_ := nHB_.out; rw [← hw_] at nHB_; replace nHXX_ := nHXX_.out; rw [← hw_] at nHXX_; replace nHM_ := nHM_.out; rw [← hw_] at nHM_; replace nHXK_ := nHXK_.out; rw [← hw_] at nHXK_; replace nHXF_ := nHXF_.out; rw [← hw_] at nHXF_; (try clear hcx0); (try clear hcx1); (try clear hck0); (try clear hcf0); clear hw_ HB HXX HM HXK HXF; have HB := Aside0.mk nHB_; have HXX := Aside0.mk nHXX_; have HM := Aside0.mk nHM_; have HXK := Aside0.mk nHXK_; have HXF := Aside0.mk nHXF_; clear nHB_ nHXX_ nHM_ nHXK_ nHXF_; have hcx0 := (blk_cell HXX.out 0).trans rfl; have hcx1 := (blk_cell HXX.out 1).trans rfl; have hck0 := (blk_cell HXK.out 0).trans rfl; have hcf0 := (blk_cell HXF.out 0).trans rfl))
  go_ret
  exact ⟨gK, gX, gF, gm, rfl, HB.out, HXK.out, HXX.out, HXF.out, ⟨_, HM.out, Memo.empty⟩, ⟨HGKM.out, fun e => HGM.out.2 e.symm, HGFM.out⟩, HGM.out.1⟩
-- slices.DeleteFunc: what stays, in place.
theorem idxK_spec (p : Int → Bool) : ∀ (l : List Int) (i : Nat), l.any p = true → ∃ k : Nat, idxK p l i = ((i + k : Nat) : Int) ∧ k < l.length ∧ l.take k = (l.take (k + 1)).filter (fun x => !p x)
  | [], i, h => by simp at h
  | x :: r, i, h => by
    cases hx : p x with
    | true =>
      refine ⟨0, by simp [idxK, hx], by simp, by simp [hx]⟩
    | false =>
      have hr : r.any p = true := by simpa [hx] using h
      obtain ⟨k, h1, h2, h3⟩ := idxK_spec p r (i + 1) hr
      refine ⟨k + 1, ?_, by simp; omega, ?_⟩
      · unfold idxK
        rw [hx, if_neg (by simp), h1]
        congr 1; omega
      · rw [List.take_succ_cons, List.take_succ_cons, List.filter_cons_of_pos (by simp [hx]), ← h3]
theorem idxK_none (p : Int → Bool) : ∀ (l : List Int) (i : Nat), l.any p = false → idxK p l i = -1 ∧ l.filter (fun x => !p x) = l
  | [], _, _ => by simp [idxK]
  | x :: r, i, h => by
    simp only [List.any_cons, Bool.or_eq_false_iff] at h
    obtain ⟨h1, h2⟩ := idxK_none p r (i + 1) h.2
    refine ⟨by simp [idxK, h.1, h1], by rw [List.filter_cons_of_pos (by simp [h.1]), h2]⟩
def DelInv (p : Int → Bool) (l : List Int) (i j : Nat) (xs : List Int) : Prop := xs.length = l.length ∧ i < j ∧ j ≤ l.length ∧ xs.take i = (l.take j).filter (fun x => !p x) ∧ xs.drop j = l.drop j
theorem DelInv.at_ {p : Int → Bool} {l : List Int} {i j : Nat} {xs : List Int} (h : DelInv p l i j xs) (hj : j < l.length) (h2 : j < xs.length) : xs[j] = l[j] := by
  have e := h.2.2.2.2
  rw [List.drop_eq_getElem_cons h2, List.drop_eq_getElem_cons hj] at e
  injection e
theorem DelInv.keep {p : Int → Bool} {l : List Int} {i j : Nat} {xs : List Int} (h : DelInv p l i j xs) (hj : j < l.length) (hp : p l[j] = false) : DelInv p l (i + 1) (j + 1) (xs.set i l[j]) := by
  obtain ⟨h1, h2, h3, h4, h5⟩ := h
  refine ⟨by simpa using h1, by omega, by omega, ?_, ?_⟩
  · have hi : i < xs.length := by omega
    rw [List.take_succ_eq_append_getElem (by simpa using hi), List.take_succ_eq_append_getElem hj, List.filter_append, List.take_set_of_le (Nat.le_refl i), h4]
    simp [hp]
  · rw [List.drop_set_of_lt (by omega), ← List.drop_drop, ← List.drop_drop, h5]
theorem DelInv.skip {p : Int → Bool} {l : List Int} {i j : Nat} {xs : List Int} (h : DelInv p l i j xs) (hj : j < l.length) (hp : p l[j] = true) : DelInv p l i (j + 1) xs := by
  obtain ⟨h1, h2, h3, h4, h5⟩ := h
  refine ⟨h1, by omega, by omega, ?_, ?_⟩
  · rw [List.take_succ_eq_append_getElem hj, List.filter_append, h4]
    simp [hp]
  · rw [← List.drop_drop, ← List.drop_drop, h5]
theorem R_clear {T base g n cap nb : Nat} {w0 : World} {ok : Nat → Prop} (hg : w0.heap.size ≤ g) : ∀ (m i : Nat) (W : World) (xs : List Int), Kd.R (Kd.int .i64) T W base ok (.slice (some ⟨g, 0, none⟩) n cap) xs → Below w0.heap.size w0 W → i + m ≤ xs.length →
    ∃ ys : List Int, Kd.R (Kd.int .i64) T (W.setCells g i (List.replicate m (.int .i64 0))) base ok (.slice (some ⟨g, 0, none⟩) n cap) ys ∧ ys.length = xs.length ∧ ys.take i = xs.take i ∧ Below w0.heap.size w0 (W.setCells g i (List.replicate m (.int .i64 0)))
  | 0, i, W, xs, h, hB, _ => ⟨xs, h, rfl, rfl, hB⟩
  | m + 1, i, W, xs, h, hB, hm => by
    have h1 := (Kd.R_putg h (i : Int) 0).1
    rw [Int.toNat_natCast] at h1
    have hB1 : Below w0.heap.size w0 (W.setCell ⟨g, i, none⟩ (.int .i64 0)) := below_set hB hg
    obtain ⟨ys, h2, h3, h4, h5⟩ := R_clear (nb := nb) hg m (i + 1) _ _ h1 hB1 (by simp; omega)
    refine ⟨ys, h2, by simpa using h3, ?_, h5⟩
    have := congrArg (List.take i) h4
    rw [List.take_take, List.take_take, Nat.min_eq_left (by omega), List.take_set_of_le (Nat.le_refl i)] at this
    exact this
theorem R_clearI {T base g n cap : Nat} {ok : Nat → Prop} (J : World → Prop) (hJ : ∀ W j v, J W → J (W.setCell ⟨g, j, none⟩ v)) : ∀ (m i : Nat) (W : World) (xs : List Int), Kd.R (Kd.int .i64) T W base ok (.slice (some ⟨g, 0, none⟩) n cap) xs → J W → i + m ≤ xs.length →
    ∃ ys : List Int, Kd.R (Kd.int .i64) T (W.setCells g i (List.replicate m (.int .i64 0))) base ok (.slice (some ⟨g, 0, none⟩) n cap) ys ∧ ys.length = xs.length ∧ ys.take i = xs.take i ∧ J (W.setCells g i (List.replicate m (.int .i64 0)))
  | 0, i, W, xs, h, hB, _ => ⟨xs, h, rfl, rfl, hB⟩
  | m + 1, i, W, xs, h, hB, hm => by
    have h1 := (Kd.R_putg h (i : Int) 0).1
    rw [Int.toNat_natCast] at h1
    obtain ⟨ys, h2, h3, h4, h5⟩ := R_clearI J hJ m (i + 1) _ _ h1 (hJ _ i _ hB) (by simp; omega)
    refine ⟨ys, h2, by simpa using h3, ?_, h5⟩
    have := congrArg (List.take i) h4
    rw [List.take_take, List.take_take, Nat.min_eq_left (by omega), List.take_set_of_le (Nat.le_refl i)] at this
    exact this
/-! ### slices_DeleteFunc_int64_int64: function 68 -/
-- EXTERNAL: by hand
-- slices_IndexFunc_int64_int64_88
set_option maxHeartbeats 4000000 in
set_option maxRecDepth 100000 in
/-- A row of the call's own, made since w0, from which what the predicate strikes is taken out. -/
theorem slices_DeleteFunc_int64_int64.calls (g : Nat) (lb : Array Value) (q : Int → Prop) (p : Int → Bool) (eg : ∀ args w, (callFunc g args).run Tryd.prog w = .ok (.enter g args) w)
    (P0 : Nat → Prop) (u : Value) (l0 : List Int) (w0 w : World) (hp : PredK Tryd.prog g lb (Kd.int .i64) q p w0) (hq : ∀ x ∈ l0, q x) (hB : Below w0.heap.size w0 w) (ho : Kd.R (Kd.int .i64) 2 w w0.heap.size P0 u l0) (hm : l0.length ≤ 4611686018427387904) :
    Calls Tryd.prog 68 #[u, .func (.func g) #[] lb] w fun e w' => ∃ v, e = .returned v ∧ Kd.R (Kd.int .i64) 2 w' w0.heap.size P0 v (l0.filter fun x => !p x) ∧ Below w0.heap.size w0 w' := by
  obtain ⟨A0, c0, rfl⟩ := Kd.R_slice ho
  have HI := slices_IndexFunc_int64_int64_88.calls g lb q p eg A0 c0 l0 w (hp.later hB) hq (Kd.R_reads' ho).2.2 (by omega)
  have HO := Aside0.mk ho
  have HB := Aside0.mk hB
  by_cases ha : l0.any p = true
  · obtain ⟨k, e1, hk, ht⟩ := idxK_spec p l0 0 ha
    rw [Nat.zero_add] at e1
    rw [e1] at HI
    obtain ⟨gb, cap, eo, gge, glt, cl, hG⟩ := Kd.R_form ho (by omega)
    injection eo with eqa _ eqc
    subst eqa eqc
    have HD := Aside0.mk (show DelInv p l0 k (k + 1) l0 from ⟨rfl, by omega, by omega, ht, rfl⟩)
    have HP := Aside0.mk hp
    have HQ := Aside0.mk hq
    have HG := Aside0.mk gge
    have HC := Aside0.mk (Kd.R_reads' ho).2.1
    have HKk := Aside0.mk hk
    have hne1 : ((k : Int) == -1) = false := beq_eq_false_iff_ne.mpr (by omega)
    clear hp hq hB ho ha e1 hk ht gge glt cl hG
    go_enter Tryd.func68, Tryd.ntmps68
    go_wp2_with (go_at_call 88; refine HI.mono ?_; rintro e w1 ⟨rfl, hb⟩; have n1_ := Aside0.mk (Kd.R_below HO.out hb); have n2_ := Aside0.mk (below_step HB.out hb); clear HO HB hb; have HO := n1_; have HB := n2_; clear n1_ n2_)
    clear HI
    go_loopg [5, 6] l0.length (fun gg s5 s6 wr => ∃ (i j : Nat) (xs : List Int), s5 = .int .i64 i ∧ s6 = .int .i64 j ∧ j ≤ l0.length ∧ l0.length - j ≤ gg ∧ Aside0 (DelInv p l0 i j xs) ∧ Aside0 (Kd.R (Kd.int .i64) 2 wr w0.heap.size P0 (.slice (some ⟨gb, 0, none⟩) l0.length c0) xs) ∧ Aside0 (Below w0.heap.size w0 wr))
    case atStart => exact ⟨k, k + 1, l0, rfl, by have h_ := HKk.out; exact congrArg (Value.int .i64) (show wrap64 ((k : Int) + 1) = ((k + 1 : Nat) : Int) by unfold wrap64; omega), HD.out.2.2.1, by omega, HD, HO, HB⟩
    case round =>
      clear HD HO HB hne1
      obtain ⟨i, j, xs, rfl, rfl, hjl, hgg, HD, HO, HB⟩ := hrel
      by_cases hlt : j < l0.length
      · have hlen := HD.out.1
        have hij := HD.out.2.1
        have hx : xs[j]'(by omega) = l0[j] := HD.out.at_ hlt (by omega)
        obtain ⟨x, hxx⟩ : ∃ x, l0[j] = x := ⟨_, rfl⟩
        have hcell : wr.cell? ⟨gb, j, none⟩ = some (.int .i64 x) := by
          have := (Kd.R_celln 0 HO.out (j : Int) (by omega) (by omega)).1
          rw [Int.toNat_natCast] at this
          rw [this]
          have e : rdOf 0 xs (j : Int) = x := by
            show xs.getD (j : Int).toNat 0 = x
            rw [Int.toNat_natCast, List.getD_eq_getElem?_getD, List.getElem?_eq_getElem (by omega), Option.getD_some, hx, hxx]
          rw [e]
        have hjz : decide ((j : Int) < (l0.length : Int)) = true := decide_eq_true (by omega)
        have hjn : decide (j < l0.length) = true := decide_eq_true hlt
        have hjp := eq_true (show (0 : Int) ≤ (j : Int) by omega)
        have hjq := eq_true (show (j : Int) < (l0.length : Int) by omega)
        have hip := eq_true (show (0 : Int) ≤ (i : Int) by omega)
        have hiq := eq_true (show (i : Int) < (l0.length : Int) by omega)
        have hcall := HP.out wr x (.int .i64 x) (HQ.out x (by rw [← hxx]; exact List.getElem_mem hlt)) rfl HB.out
        cases hpx : p x with
        | false =>
          have HD2 := Aside0.mk (by have := HD.out.keep hlt (by rw [hxx]; exact hpx); rw [hxx] at this; exact this : DelInv p l0 (i + 1) (j + 1) (xs.set i x))
          rw [hpx] at hcall
          have HII := Aside0.mk (show (i : Nat) < l0.length by omega)
          clear hlen hij hx hxx HD hlt hpx
          go_wp2_with (first | (go_at_fn g; refine hcall.mono ?_; rintro e w7 ⟨rfl, hb⟩; have n1_ := Aside0.mk (Kd.R_below HO.out hb); have n2_ := Aside0.mk (below_step HB.out hb); clear HO HB hb hcell; have HO := n1_; have HB := n2_; clear n1_ n2_; obtain ⟨hxi0, hfi0⟩ := Kd.R_celln 0 HO.out (i : Int) (by omega) (by have := HII.out; omega); (try rw [Int.toNat_natCast] at hxi0 hfi0)) | ((with_reducible refine gate_store (t := 2) (p := 33) rfl ?_); refine store_event (t := 2) (p := 33) (v := ?vo) (w1 := (w7.setCell ⟨gb, i, none⟩ (.int .i64 x))) ?hg ?ho ?hn ?hr ?_; (case ho => rfl); (case hg => rfl); (case hn => rfl); (case hr => first | (go_simp; done) | (go_simp; rfl)); intro w8 hw; have hp_ : Kd.R (Kd.int .i64) 2 w8 w0.heap.size P0 (.slice (some ⟨gb, 0, none⟩) l0.length c0) (xs.set i x) := (by rw [hw]; have h_ := (Kd.R_putg HO.out (i : Int) x).1; rw [Int.toNat_natCast] at h_; exact h_); have n1_ := Aside0.mk hp_; have n2_ := Aside0.mk (by rw [hw]; exact below_set HB.out HG.out : Below w0.heap.size w0 w8); clear HO HB hxi0 hfi0 hw hp_; have HO := n1_; have HB := n2_; clear n1_ n2_))
          go_roundg (l0.length - (j + 1))
          case measure => have := HD2.out.2.2.1; omega
          case rel => exact ⟨i + 1, j + 1, xs.set i x, by have h_ := HII.out; exact congrArg (Value.int .i64) (show wrap64 ((i : Int) + 1) = ((i + 1 : Nat) : Int) by unfold wrap64; omega), by first | rfl | exact congrArg (Value.int .i64) (show (j : Int) + 1 = ((j + 1 : Nat) : Int) by omega), HD2.out.2.2.1, Nat.le_refl _, HD2, HO, HB⟩
        | true =>
          have HD2 := Aside0.mk (HD.out.skip hlt (by rw [hxx]; exact hpx))
          rw [hpx] at hcall
          clear hlen hij hx hxx HD hlt hpx
          go_wp2_with (go_at_fn g; refine hcall.mono ?_; rintro e w7 ⟨rfl, hb⟩; have n1_ := Aside0.mk (Kd.R_below HO.out hb); have n2_ := Aside0.mk (below_step HB.out hb); clear HO HB hb hcell; have HO := n1_; have HB := n2_; clear n1_ n2_)
          go_roundg (l0.length - (j + 1))
          case measure => have := HD2.out.2.2.1; omega
          case rel => exact ⟨i, j + 1, xs, rfl, by first | rfl | exact congrArg (Value.int .i64) (show (j : Int) + 1 = ((j + 1 : Nat) : Int) by omega), HD2.out.2.2.1, Nat.le_refl _, HD2, HO, HB⟩
      · have ej : j = l0.length := by omega
        subst ej
        have hlen := HD.out.1
        have hij := HD.out.2.1
        have hc := HC.out
        have hjz : decide ((l0.length : Int) < (l0.length : Int)) = false := decide_eq_false (by omega)
        have hcut : ∀ W : World, (Instr.slice 38 (.slice (some ⟨gb, 0, none⟩) l0.length c0) (some (.int .i64 i)) none none).run Tryd.prog W = .ok (.slice (some ⟨gb, i, none⟩) (l0.length - i) (c0 - i)) W := by
          obtain ⟨i0, hi0, _, hsz, _⟩ := info_parts info2
          intro W
          have := cut_from (P := Tryd.prog) 38 2 .i64 Tryd.underlying38 hi0 1 hsz (some ⟨gb, 0, none⟩) l0.length c0 (i : Int) (by omega) (by omega) W
          rw [Int.toNat_natCast, if_neg (by omega)] at this
          rw [this]
          simp [Addr.add]
          all_goals (intro h_; omega)
        have hcut2 : ∀ W : World, (Instr.slice 38 (.slice (some ⟨gb, 0, none⟩) l0.length c0) none (some (.int .i64 i)) none).run Tryd.prog W = .ok (.slice (some ⟨gb, 0, none⟩) i c0) W := by
          obtain ⟨i0, hi0, _, hsz, _⟩ := info_parts info2
          have := cut_to (P := Tryd.prog) 38 2 .i64 Tryd.underlying38 hi0 (some ⟨gb, 0, none⟩) l0.length c0 (i : Int) (by omega) (by omega) hc
          rw [Int.toNat_natCast] at this
          exact this
        have hcl : ∀ ty, (Builtin.clear_ #[38] ty #[.slice (some ⟨gb, i, none⟩) (l0.length - i) (c0 - i)]).run Tryd.prog wr = .ok (.tuple #[]) (wr.setCells gb i (List.replicate (l0.length - i) (.int .i64 0))) := by
          intro ty
          refine Lib.run_clear_slice wr _ _ ty _ Tryd.underlying38 (fun w => by kernel_rfl) rfl rfl gb i _ _ (by omega) (fun t ht => ?_) (fun t ht => ?_)
          · have := (Kd.R_celln 0 HO.out ((i + t : Nat) : Int) (by omega) (by omega)).1
            rw [Int.toNat_natCast] at this
            rw [this]; rfl
          · have := (Kd.R_celln 0 HO.out ((i + t : Nat) : Int) (by omega) (by omega)).2
            rw [Int.toNat_natCast] at this
            exact this
        obtain ⟨ys, hy1, hy2, hy3, hy4⟩ := R_clear (nb := 0) HG.out (l0.length - i) i wr xs HO.out HB.out (by omega)
        have HY1 := Aside0.mk (Kd.R_take hy1 (m := i) (by omega))
        have HY3 := Aside0.mk hy3
        have HY4 := Aside0.mk hy4
        have HF := Aside0.mk HD.out.2.2.2.1
        clear hy1 hy2 hy3 hy4 hlen hij hc HO HB
        go_wp2
        go_ret
        refine ⟨_, rfl, ?_, HY4.out⟩
        have e := HF.out
        rw [List.take_length] at e
        rw [← e, ← HY3.out]
        exact HY1.out
  · have ha2 : l0.any p = false := by
      cases h : l0.any p with
      | true => exact absurd h ha
      | false => rfl
    obtain ⟨e1, e2⟩ := idxK_none p l0 0 ha2
    rw [e1] at HI
    rw [e2]
    clear hp hq hB ho ha ha2 e1 e2
    go_enter Tryd.func68, Tryd.ntmps68
    go_wp2_with (go_at_call 88; refine HI.mono ?_; rintro e w1 ⟨rfl, hb⟩; have n1_ := Aside0.mk (Kd.R_below HO.out hb); have n2_ := Aside0.mk (below_step HB.out hb); clear HO HB hb; have HO := n1_; have HB := n2_; clear n1_ n2_)
    go_ret
    exact ⟨_, rfl, HO.out, HB.out⟩
set_option maxHeartbeats 4000000 in
set_option maxRecDepth 100000 in
/-- The same of a function value that may turn what lies, as long as I goes on (I counts the calls). -/
theorem slices_DeleteFunc_int64_int64.callsI (g : Nat) (lb : Array Value) (p : Int → Bool) (eg : ∀ args w, (callFunc g args).run Tryd.prog w = .ok (.enter g args) w) (I : Nat → World → Prop) (gm : Nat)
    (P0 : Nat → Prop) (u : Value) (l0 : List Int) (w0 w : World) (hI : I 0 w) (hp : ∀ i W x, i < 2 * l0.length → I i W → x ∈ l0 → Calls Tryd.prog g (#[.int .i64 x] ++ lb) W fun e W' => e = .returned (.bool (p x)) ∧ I (i + 1) W' ∧ W.grownBy W' (some gm))
    (hst : ∀ i W gb j v, w0.heap.size ≤ gb → I i W → I i (W.setCell ⟨gb, j, none⟩ v)) (hgm : gm < w0.heap.size) (hBI : ∀ i W, I i W → w0.heap.size ≤ W.heap.size) (ho : Kd.R (Kd.int .i64) 2 w w0.heap.size P0 u l0) (hm : l0.length ≤ 4611686018427387904) :
    Calls Tryd.prog 68 #[u, .func (.func g) #[] lb] w fun e w' => ∃ v, e = .returned v ∧ Kd.R (Kd.int .i64) 2 w' w0.heap.size P0 v (l0.filter fun x => !p x) ∧ ∃ i, i ≤ 2 * l0.length ∧ I i w' := by
  obtain ⟨A0, c0, rfl⟩ := Kd.R_slice ho
  have ne_ : ∀ {v : Value} {W : World} {xs : List Int}, Kd.R (Kd.int .i64) 2 W w0.heap.size P0 v xs → ∀ k, some gm = some k → some k ≠ v.ownBlock := fun h k hk e => by cases hk; have := Kd.R_base h _ e.symm; omega
  have HI := slices_IndexFunc_int64_int64_88.callsI g lb p eg (fun i W => I i W ∧ Kd.R (Kd.int .i64) 2 W w0.heap.size P0 (.slice A0 l0.length c0) l0) A0 c0 l0 w ⟨hI, ho⟩ (fun i W x hi hW hx => (hp i W x (by omega) hW.1 hx).mono fun _ _ hh => ⟨hh.1, hh.2.1, Kd.R_grown2 hW.2 rfl hh.2.2 (ne_ hW.2)⟩) (fun i W hW => (Kd.R_reads' hW.2).2.2) (by omega)
  have HNE := Aside0.mk @ne_
  have HST := Aside0.mk hst
  clear ne_ hst
  by_cases ha : l0.any p = true
  · obtain ⟨k, e1, hk, ht⟩ := idxK_spec p l0 0 ha
    rw [Nat.zero_add] at e1
    rw [e1] at HI
    obtain ⟨gb, cap, eo, gge, glt, cl, hG⟩ := Kd.R_form ho (by omega)
    injection eo with eqa _ eqc
    subst eqa eqc
    have HD := Aside0.mk (show DelInv p l0 k (k + 1) l0 from ⟨rfl, by omega, by omega, ht, rfl⟩)
    have HP := Aside0.mk hp
    have HG := Aside0.mk gge
    have HC := Aside0.mk (Kd.R_reads' ho).2.1
    have HKk := Aside0.mk hk
    have hne1 : ((k : Int) == -1) = false := beq_eq_false_iff_ne.mpr (by omega)
    clear hp hI hBI ho ha e1 hk ht gge glt cl hG
    go_enter Tryd.func68, Tryd.ntmps68
    go_wp2_with (go_at_call 88; refine HI.mono ?_; rintro e w1 ⟨rfl, ci, hci, hI1, hR1⟩; have HO := Aside0.mk hR1; have HB := Aside0.mk hI1; have HCI := Aside0.mk hci; clear hI1 hR1 hci)
    clear HI
    go_loopg [5, 6] l0.length (fun gg s5 s6 wr => ∃ (i j : Nat) (xs : List Int), s5 = .int .i64 i ∧ s6 = .int .i64 j ∧ j ≤ l0.length ∧ l0.length - j ≤ gg ∧ Aside0 (DelInv p l0 i j xs) ∧ Aside0 (Kd.R (Kd.int .i64) 2 wr w0.heap.size P0 (.slice (some ⟨gb, 0, none⟩) l0.length c0) xs) ∧ Aside0 (∃ c, c ≤ l0.length + j ∧ I c wr))
    case atStart => exact ⟨k, k + 1, l0, rfl, by have h_ := HKk.out; exact congrArg (Value.int .i64) (show wrap64 ((k : Int) + 1) = ((k + 1 : Nat) : Int) by unfold wrap64; omega), HD.out.2.2.1, by omega, HD, HO, ⟨⟨ci, by have := HCI.out; omega, HB.out⟩⟩⟩
    case round =>
      clear HD HO HB HCI hne1
      obtain ⟨i, j, xs, rfl, rfl, hjl, hgg, HD, HO, HBX⟩ := hrel
      obtain ⟨cc, hcc, hBc⟩ := HBX.out
      have HB := Aside0.mk hBc
      have HCC := Aside0.mk hcc
      clear HBX hBc hcc
      by_cases hlt : j < l0.length
      · have hlen := HD.out.1
        have hij := HD.out.2.1
        have hx : xs[j]'(by omega) = l0[j] := HD.out.at_ hlt (by omega)
        obtain ⟨x, hxx⟩ : ∃ x, l0[j] = x := ⟨_, rfl⟩
        have hcell : wr.cell? ⟨gb, j, none⟩ = some (.int .i64 x) := by
          have := (Kd.R_celln 0 HO.out (j : Int) (by omega) (by omega)).1
          rw [Int.toNat_natCast] at this
          rw [this]
          have e : rdOf 0 xs (j : Int) = x := by
            show xs.getD (j : Int).toNat 0 = x
            rw [Int.toNat_natCast, List.getD_eq_getElem?_getD, List.getElem?_eq_getElem (by omega), Option.getD_some, hx, hxx]
          rw [e]
        have hjz : decide ((j : Int) < (l0.length : Int)) = true := decide_eq_true (by omega)
        have hjn : decide (j < l0.length) = true := decide_eq_true hlt
        have hjp := eq_true (show (0 : Int) ≤ (j : Int) by omega)
        have hjq := eq_true (show (j : Int) < (l0.length : Int) by omega)
        have hip := eq_true (show (0 : Int) ≤ (i : Int) by omega)
        have hiq := eq_true (show (i : Int) < (l0.length : Int) by omega)
        have hcall := HP.out cc wr x (by have := HCC.out; omega) HB.out (by rw [← hxx]; exact List.getElem_mem hlt)
        cases hpx : p x with
        | false =>
          have HD2 := Aside0.mk (by have := HD.out.keep hlt (by rw [hxx]; exact hpx); rw [hxx] at this; exact this : DelInv p l0 (i + 1) (j + 1) (xs.set i x))
          rw [hpx] at hcall
          have HII := Aside0.mk (show (i : Nat) < l0.length by omega)
          clear hlen hij hx hxx HD hlt hpx
          go_wp2_with (first | (go_at_fn g; refine hcall.mono ?_; rintro e w7 ⟨rfl, hI7, hg7⟩; have n1_ := Aside0.mk (Kd.R_grown2 HO.out rfl hg7 (HNE.out HO.out)); have n2_ := Aside0.mk hI7; clear HO HB hI7 hg7 hcell; have HO := n1_; have HB := n2_; clear n1_ n2_; obtain ⟨hxi0, hfi0⟩ := Kd.R_celln 0 HO.out (i : Int) (by omega) (by have := HII.out; omega); (try rw [Int.toNat_natCast] at hxi0 hfi0)) | ((with_reducible refine gate_store (t := 2) (p := 33) rfl ?_); refine store_event (t := 2) (p := 33) (v := ?vo) (w1 := (w7.setCell ⟨gb, i, none⟩ (.int .i64 x))) ?hg ?ho ?hn ?hr ?_; (case ho => rfl); (case hg => rfl); (case hn => rfl); (case hr => first | (go_simp; done) | (go_simp; rfl)); intro w8 hw; have hp_ : Kd.R (Kd.int .i64) 2 w8 w0.heap.size P0 (.slice (some ⟨gb, 0, none⟩) l0.length c0) (xs.set i x) := (by rw [hw]; have h_ := (Kd.R_putg HO.out (i : Int) x).1; rw [Int.toNat_natCast] at h_; exact h_); have n1_ := Aside0.mk hp_; have n2_ := Aside0.mk (by rw [hw]; exact HST.out _ _ _ _ _ HG.out HB.out : I (cc + 1) w8); clear HO HB hxi0 hfi0 hw hp_; have HO := n1_; have HB := n2_; clear n1_ n2_))
          go_roundg (l0.length - (j + 1))
          case measure => have := HD2.out.2.2.1; omega
          case rel => exact ⟨i + 1, j + 1, xs.set i x, by have h_ := HII.out; exact congrArg (Value.int .i64) (show wrap64 ((i : Int) + 1) = ((i + 1 : Nat) : Int) by unfold wrap64; omega), by first | rfl | exact congrArg (Value.int .i64) (show (j : Int) + 1 = ((j + 1 : Nat) : Int) by omega), HD2.out.2.2.1, Nat.le_refl _, HD2, HO, ⟨⟨cc + 1, by have := HCC.out; omega, HB.out⟩⟩⟩
        | true =>
          have HD2 := Aside0.mk (HD.out.skip hlt (by rw [hxx]; exact hpx))
          rw [hpx] at hcall
          clear hlen hij hx hxx HD hlt hpx
          go_wp2_with (go_at_fn g; refine hcall.mono ?_; rintro e w7 ⟨rfl, hI7, hg7⟩; have n1_ := Aside0.mk (Kd.R_grown2 HO.out rfl hg7 (HNE.out HO.out)); have n2_ := Aside0.mk hI7; clear HO HB hI7 hg7 hcell; have HO := n1_; have HB := n2_; clear n1_ n2_)
          go_roundg (l0.length - (j + 1))
          case measure => have := HD2.out.2.2.1; omega
          case rel => exact ⟨i, j + 1, xs, rfl, by first | rfl | exact congrArg (Value.int .i64) (show (j : Int) + 1 = ((j + 1 : Nat) : Int) by omega), HD2.out.2.2.1, Nat.le_refl _, HD2, HO, ⟨⟨cc + 1, by have := HCC.out; omega, HB.out⟩⟩⟩
      · have ej : j = l0.length := by omega
        subst ej
        have hlen := HD.out.1
        have hij := HD.out.2.1
        have hc := HC.out
        have hjz : decide ((l0.length : Int) < (l0.length : Int)) = false := decide_eq_false (by omega)
        have hcut : ∀ W : World, (Instr.slice 38 (.slice (some ⟨gb, 0, none⟩) l0.length c0) (some (.int .i64 i)) none none).run Tryd.prog W = .ok (.slice (some ⟨gb, i, none⟩) (l0.length - i) (c0 - i)) W := by
          obtain ⟨i0, hi0, _, hsz, _⟩ := info_parts info2
          intro W
          have := cut_from (P := Tryd.prog) 38 2 .i64 Tryd.underlying38 hi0 1 hsz (some ⟨gb, 0, none⟩) l0.length c0 (i : Int) (by omega) (by omega) W
          rw [Int.toNat_natCast, if_neg (by omega)] at this
          rw [this]
          simp [Addr.add]
          all_goals (intro h_; omega)
        have hcut2 : ∀ W : World, (Instr.slice 38 (.slice (some ⟨gb, 0, none⟩) l0.length c0) none (some (.int .i64 i)) none).run Tryd.prog W = .ok (.slice (some ⟨gb, 0, none⟩) i c0) W := by
          obtain ⟨i0, hi0, _, hsz, _⟩ := info_parts info2
          have := cut_to (P := Tryd.prog) 38 2 .i64 Tryd.underlying38 hi0 (some ⟨gb, 0, none⟩) l0.length c0 (i : Int) (by omega) (by omega) hc
          rw [Int.toNat_natCast] at this
          exact this
        have hcl : ∀ ty, (Builtin.clear_ #[38] ty #[.slice (some ⟨gb, i, none⟩) (l0.length - i) (c0 - i)]).run Tryd.prog wr = .ok (.tuple #[]) (wr.setCells gb i (List.replicate (l0.length - i) (.int .i64 0))) := by
          intro ty
          refine Lib.run_clear_slice wr _ _ ty _ Tryd.underlying38 (fun w => by kernel_rfl) rfl rfl gb i _ _ (by omega) (fun t ht => ?_) (fun t ht => ?_)
          · have := (Kd.R_celln 0 HO.out ((i + t : Nat) : Int) (by omega) (by omega)).1
            rw [Int.toNat_natCast] at this
            rw [this]; rfl
          · have := (Kd.R_celln 0 HO.out ((i + t : Nat) : Int) (by omega) (by omega)).2
            rw [Int.toNat_natCast] at this
            exact this
        obtain ⟨ys, hy1, hy2, hy3, hy4⟩ := R_clearI (I cc) (fun W j v hW => HST.out _ _ _ _ _ HG.out hW) (l0.length - i) i wr xs HO.out HB.out (by omega)
        have HY1 := Aside0.mk (Kd.R_take hy1 (m := i) (by omega))
        have HY3 := Aside0.mk hy3
        have HY4 := Aside0.mk hy4
        have HF := Aside0.mk HD.out.2.2.2.1
        clear hy1 hy2 hy3 hy4 hlen hij hc HO HB
        go_wp2
        go_ret
        refine ⟨_, rfl, ?_, cc, by have := HCC.out; omega, HY4.out⟩
        have e := HF.out
        rw [List.take_length] at e
        rw [← e, ← HY3.out]
        exact HY1.out
  · have ha2 : l0.any p = false := by
      cases h : l0.any p with
      | true => exact absurd h ha
      | false => rfl
    obtain ⟨e1, e2⟩ := idxK_none p l0 0 ha2
    rw [e1] at HI
    rw [e2]
    clear hp hI hBI ho ha ha2 e1 e2
    go_enter Tryd.func68, Tryd.ntmps68
    go_wp2_with (go_at_call 88; refine HI.mono ?_; rintro e w1 ⟨rfl, ci, hci, hI1, hR1⟩; have HO := Aside0.mk hR1; have HB := Aside0.mk hI1; have HCI := Aside0.mk hci; clear hI1 hR1 hci)
    go_ret
    exact ⟨_, rfl, HO.out, ci, by have := HCI.out; omega, HB.out⟩
/-! ### impl_Net_best: function 47 -/
-- EXTERNAL: by hand
-- impl_Net_winners impl_Net_over impl_turn_open impl_turn_after slices_DeleteFunc_int64_int64 impl_bit
def bestV (l : List (List Int)) (s : ByteArray) (b : Bool) : List Int := if ovV l s = 0 then (freeV s).filter (fun k => netWin l (afterV s k b) (!b) == ownV b) else []
theorem WinEnv.set {w0 : World} {gK gX gF gm : Nat} {p : Int} {A : Option Addr} {c : Nat} {l : List (List Int)} {N : Nat} {W : World} (h : WinEnv w0 gK gX gF gm p A c l N W) {g j : Nat} (v : Value) (h1 : gK ≠ g ∧ gX ≠ g ∧ gF ≠ g ∧ gm ≠ g) (h2 : w0.heap.size ≤ g) : WinEnv w0 gK gX gF gm p A c l N (W.setCell ⟨g, j, none⟩ v) :=
  ⟨below_set h.below h2, blk_far (p := ⟨g, j, none⟩) h.hk h1.1 v, blk_far (p := ⟨g, j, none⟩) h.hx h1.2.1 v, blk_far (p := ⟨g, j, none⟩) h.hf h1.2.2.1 v, by obtain ⟨D, e1, e2⟩ := h.memo; exact ⟨D, e1.setCell (a := ⟨g, j, none⟩) h1.2.2.2 v, e2⟩, h.ne, h.base⟩
theorem eg_bpred : ∀ args w, (callFunc 69 args).run Tryd.prog w = .ok (.enter 69 args) w := enters_of Tryd.func69 (by kernel_rfl) rfl
def bestPred.T1 : Bool × List (List Nat × List Nat) := (true, [([], []), ([], []), ([], []), ([1, 2], [1, 2]), ([0, 3, 3], [0, 3]), ([], []), ([5], [5]), ([6, 4], [6]), ([7], [7]), ([4, 8], [4, 8]), ([9, 7, 0, 1, 2, 3, 4, 5, 6, 7, 8, 9], [9])])
def bestPred.B1 : List Nat := [0, 0, 0, 6, 15, 0, 32, 127, 255, 511, 1023]
theorem bestPred.tab1 : rtab .any (opsOf Tryd.f69 1) = bestPred.T1 := by kernel_rfl
theorem bestPred.bits1 : waitsOk bestPred.T1.2 bestPred.B1 = true := by kernel_rfl
set_option maxHeartbeats 4000000 in
set_option maxRecDepth 100000 in
theorem bestPred (w0 : World) (gK gX gF gm : Nat) (p : Int) (A : Option Addr) (c : Nat) (l : List (List Int)) (d : Nat) (IH : FindDoes w0 gK gX gF gm p A c l d) (hl : l.length ≤ 10)
    (gt go : Nat) (s : ByteArray) (b : Bool) (N : Nat) (W : World) (x : Int) (ht : W.heap[gt]? = some (.cells #[.string s, .bool b] 64 (0, 0))) (ho : W.heap[go]? = some (.cells #[.func (.func 64) #[] #[.pointer (some ⟨gK, 0, none⟩), .pointer (some ⟨gX, 0, none⟩), .pointer (some ⟨gF, 0, none⟩)]] 61 (0, 0))) (hne : gt ≠ gm ∧ go ≠ gm)
    (hx : x ∈ freeV s) (hd : (freeV s).length ≤ d + 1) (hs : s.size = l.length) (hE : WinEnv w0 gK gX gF gm p A c l N W) (hN : N + winCnt d < maxLen) :
    Calls Tryd.prog 69 #[.int .i64 x, .pointer (some ⟨go, 0, none⟩), .pointer (some ⟨gt, 0, none⟩)] W fun e W' => e = .returned (.bool (netWin l (afterV s x b) (!b) != ownV b)) ∧ WinEnv w0 gK gX gF gm p A c l (N + winCnt d) W' ∧ W.grownBy W' (some gm) := by
  obtain ⟨x0, x1, _⟩ := mem_chosenTo.1 hx
  have hav := after_val s b x x0 x1 (by omega)
  have hfl := free_less s x b hx
  have hsz : (afterV s x b).size = l.length := by
    obtain ⟨j, rfl⟩ : ∃ j : Nat, x = (j : Int) := ⟨x.toNat, by omega⟩
    rw [afterV_size s j b (by omega), hs]
  obtain ⟨bv, hbv, how, hb0, hb1⟩ := bit_ex b
  have HAV := Aside0.mk hav
  have HIH := Aside0.mk (fun W' hE' => IH (afterV s x b) (!b) N W' (by omega) hsz hE' hN)
  rw [how]
  generalize afterV s x b = s' at HAV HIH
  generalize (!b) = b' at HAV HIH
  generalize netWin l s' b' = r at HIH ⊢
  have HBV := Aside0.mk hbv
  have n1_ := Aside0.mk hE.drew
  have n2_ := Aside0.mk (blk_drew ht)
  have n3_ := Aside0.mk (blk_drew ho)
  have HNE := Aside0.mk hne
  have HGM := Aside0.mk hE.memo.lt
  have HWD := Aside0.mk (show Below W.heap.size W W.drew from below_drew1 (Below.refl _ _))
  have hu := Tryd.underlying64
  have wv1 : wrap64 (2 - bv) = 2 - bv := by unfold wrap64; omega
  have wv2 : IntKind.i64.wrap (2 - bv) = 2 - bv := (i64_w _).trans wv1
  clear IH ht ho hne hx hd hs hE hN x0 x1 hav hfl hsz hbv how
  go_enter Tryd.func69, Tryd.ntmps69
  try go_wp2
  refine start_ (n := 11) (S := fun w' => w'.cell? ⟨go, 0, none⟩ = some (.func (.func 64) #[] #[.pointer (some ⟨gK, 0, none⟩), .pointer (some ⟨gX, 0, none⟩), .pointer (some ⟨gF, 0, none⟩)]) ∧ w'.cell? ⟨gt, 0, none⟩ = some (.string s) ∧ w'.cell? ⟨gt, 1, none⟩ = some (.bool b)) (ds := []) #[false, false, false, false, false, false, false, false, false, false, false] (by kernel_rfl) rfl rfl ⟨(blk_cell n3_.out 0).trans rfl, (blk_cell n2_.out 0).trans rfl, (blk_cell n2_.out 1).trans rfl⟩ (fun hHeld => ?_)
  refine with_tabW bestPred.tab1 bestPred.bits1 (fun HT_ HW_ => ?_)
  generalize hq_ : W.drew = wd_ at n1_ n2_ n3_ HWD hHeld ⊢
  clear hq_
  refine take_ (i := 0) (N := some 5) (v := ?_) (a' := ?_) #[true, false, false, false, false, false, false, false, false, false, false] rfl rfl (take_ofW HT_.out HW_.out (by kernel_rfl)) (fun _ _ _ h => h) (Or.inl ⟨by rfl, ?_⟩) hHeld ?_ ?_
  rotate_left
  · rintro w' ⟨s0, s1, s2⟩
    go_simp
    with_reducible rfl
  rotate_left
  · simp only [Act.put, List.setIfInBounds_toArray, List.set_cons_zero, List.set_cons_succ, i64_w, i32_w]
    rfl
  refine take_ (i := 1) (N := some 6) (v := ?_) (a' := ?_) #[true, true, false, false, false, false, false, false, false, false, false] rfl rfl (take_ofW HT_.out HW_.out (by kernel_rfl)) (fun _ _ _ h => h) (Or.inl ⟨by rfl, ?_⟩) hHeld ?_ ?_
  rotate_left
  · rintro w' ⟨s0, s1, s2⟩
    go_simp
    with_reducible rfl
  rotate_left
  · simp only [Act.put, List.setIfInBounds_toArray, List.set_cons_zero, List.set_cons_succ, i64_w, i32_w]
    rfl
  refine pure_ (i := 2) (N := some 7) (v := ?_) (a' := ?_) #[true, true, true, false, false, false, false, false, false, false, false] rfl rfl (any_of HT_.out (by kernel_rfl)) (fun _ _ _ h => h) (Or.inl ⟨by rfl, ?_⟩) ?_ ?_
  rotate_left
  · intro w'
    go_simp
    with_reducible rfl
  rotate_left
  · simp only [Act.put, List.setIfInBounds_toArray, List.set_cons_zero, List.set_cons_succ, i64_w, i32_w]
    rfl
  refine pure_ (i := 5) (N := some 10) (v := ?_) (a' := ?_) #[true, true, true, false, false, true, false, false, false, false, false] rfl rfl (any_of HT_.out (by kernel_rfl)) (fun _ _ _ h => h) (Or.inl ⟨by rfl, ?_⟩) ?_ ?_
  rotate_left
  · intro w'
    go_simp
    with_reducible rfl
  rotate_left
  · simp only [Act.put, List.setIfInBounds_toArray, List.set_cons_zero, List.set_cons_succ, i64_w, i32_w]
    rfl
  refine take_ (i := 6) (N := some 11) (v := ?_) (a' := ?_) #[true, true, true, false, false, true, true, false, false, false, false] rfl rfl (take_ofW HT_.out HW_.out (by kernel_rfl)) (fun _ _ _ h => h) (Or.inl ⟨by rfl, ?_⟩) hHeld ?_ ?_
  rotate_left
  · rintro w' ⟨s0, s1, s2⟩
    go_simp
    with_reducible rfl
  rotate_left
  · simp only [Act.put, List.setIfInBounds_toArray, List.set_cons_zero, List.set_cons_succ, i64_w, i32_w]
    rfl
  refine one_ (i := 3) (N := some 8) #[true, true, true, true, false, true, true, false, false, false, false] rfl rfl (one_of HT_.out (by kernel_rfl)) (by decide) (fun K hK => ?_)
  refine goes_ Tryd.func48 (by kernel_rfl) rfl #[.agg #[.string s, .bool b], .int .i64 x] (by rfl) rfl rfl (by (try simp only [List.map_toArray, List.map_cons, List.map_nil]); first | done | rfl) ?_
  refine (impl_turn_after.calls s b x s' b' _ HAV.out).mono ?_
  rintro e wa_ ⟨rfl, hb⟩
  refine ⟨_, rfl, ?_⟩
  have HE2 := Aside0.mk (n1_.out.step hb)
  have HT2 := Aside0.mk (blk_below n2_.out hb)
  have HO2 := Aside0.mk (blk_below n3_.out hb)
  have HW2 := Aside0.mk (below_step HWD.out hb)
  clear hb n1_ n2_ n3_ HWD
  refine hK.out _ _ ⟨(blk_cell HO2.out 0).trans rfl, (blk_cell HT2.out 0).trans rfl, (blk_cell HT2.out 1).trans rfl⟩ (fun hHeld => ?_)
  clear hK K
  refine norm_ (a' := ?_) ?_ ?_
  rotate_left
  · show Act.put _ (some 8) _ = _
    simp only [Act.put, List.setIfInBounds_toArray, List.set_cons_zero, List.set_cons_succ, i64_w, i32_w]
    rfl
  refine one_ (i := 4) (N := some 9) #[true, true, true, true, true, true, true, false, false, false, false] rfl rfl (one_of HT_.out (by kernel_rfl)) (by decide) (fun K hK => ?_)
  refine goesF_ (x := .tmp 5) (lb := #[.pointer (some ⟨gK, 0, none⟩), .pointer (some ⟨gX, 0, none⟩), .pointer (some ⟨gF, 0, none⟩)]) eg_find #[.agg #[.string s', .bool b']] (by rfl) rfl rfl rfl (by (try simp only [List.map_toArray, List.map_cons, List.map_nil]); first | done | rfl) ?_
  refine (HIH.out _ HE2.out).mono ?_
  rintro e wb_ ⟨rfl, hE3, hG3⟩
  refine ⟨_, rfl, ?_⟩
  have HE2 := Aside0.mk hE3
  have HT3 := Aside0.mk (blk_grownB HT2.out hG3 HNE.out.1)
  have HO3 := Aside0.mk (blk_grownB HO2.out hG3 HNE.out.2)
  have HG2 := Aside0.mk (grown_after_below HW2.out hG3)
  clear hE3 hG3 HT2 HO2 HW2
  refine hK.out _ _ ⟨(blk_cell HO3.out 0).trans rfl, (blk_cell HT3.out 0).trans rfl, (blk_cell HT3.out 1).trans rfl⟩ (fun hHeld => ?_)
  clear hK K
  refine norm_ (a' := ?_) ?_ ?_
  rotate_left
  · show Act.put _ (some 9) _ = _
    simp only [Act.put, List.setIfInBounds_toArray, List.set_cons_zero, List.set_cons_succ, i64_w, i32_w]
    rfl
  refine one_ (i := 7) (N := some 12) #[true, true, true, true, true, true, true, true, false, false, false] rfl rfl (one_of HT_.out (by kernel_rfl)) (by decide) (fun K hK => ?_)
  refine goes_ Tryd.func65 (by kernel_rfl) rfl #[.bool b] (by rfl) rfl rfl (by (try simp only [List.map_toArray, List.map_cons, List.map_nil]); first | done | rfl) ?_
  refine (impl_bit.calls b bv _ HBV.out).mono ?_
  rintro e wc_ ⟨rfl, hd⟩
  refine ⟨_, rfl, ?_⟩
  have hb := hd.below
  have HE3 := Aside0.mk (HE2.out.step hb)
  have HT4 := Aside0.mk (blk_below HT3.out hb)
  have HO4 := Aside0.mk (blk_below HO3.out hb)
  have HG3 := Aside0.mk (HG2.out.trans (grown_of_below hb _))
  clear hb hd HE2 HT3 HO3 HG2
  refine hK.out _ _ ⟨(blk_cell HO4.out 0).trans rfl, (blk_cell HT4.out 0).trans rfl, (blk_cell HT4.out 1).trans rfl⟩ (fun hHeld => ?_)
  clear hK K
  refine norm_ (a' := ?_) ?_ ?_
  rotate_left
  · show Act.put _ (some 12) _ = _
    simp only [Act.put, List.setIfInBounds_toArray, List.set_cons_zero, List.set_cons_succ, i64_w, i32_w]
    rfl
  refine pure_ (i := 8) (N := some 13) (v := ?_) (a' := ?_) #[true, true, true, true, true, true, true, true, true, false, false] rfl rfl (any_of HT_.out (by kernel_rfl)) (fun _ _ _ h => h) (Or.inl ⟨by rfl, ?_⟩) ?_ ?_
  rotate_left
  · intro w'
    go_simp
    with_reducible rfl
  rotate_left
  · simp only [Act.put, List.setIfInBounds_toArray, List.set_cons_zero, List.set_cons_succ, i64_w, i32_w]
    rfl
  refine pure_ (i := 9) (N := some 14) (v := ?_) (a' := ?_) #[true, true, true, true, true, true, true, true, true, true, false] rfl rfl (any_of HT_.out (by kernel_rfl)) (fun _ _ _ h => h) (Or.inl ⟨by rfl, ?_⟩) ?_ ?_
  rotate_left
  · intro w'
    go_simp
    with_reducible rfl
  rotate_left
  · simp only [Act.put, List.setIfInBounds_toArray, List.set_cons_zero, List.set_cons_succ, i64_w, i32_w]
    rfl
  refine pure_ (i := 10) (N := some 4) (v := ?_) (a' := ?_) #[true, true, true, true, true, true, true, true, true, true, true] rfl rfl (any_of HT_.out (by kernel_rfl)) (fun _ _ _ h => h) (Or.inl ⟨by rfl, ?_⟩) ?_ ?_
  rotate_left
  · intro w'
    go_simp
    with_reducible rfl
  rotate_left
  · simp only [Act.put, List.setIfInBounds_toArray, List.set_cons_zero, List.set_cons_succ, i64_w, i32_w]
    rfl
  refine done_ (done_of HT_.out (by kernel_rfl)) ?_
  go_wp2_with fail
  go_ret
  exact ⟨rfl, HE3.out, HG3.out⟩
/-- What goes on from call to call while the open edges are sifted. -/
def BestI (w0 : World) (gK gX gF gm : Nat) (p : Int) (A : Option Addr) (c : Nat) (l : List (List Int)) (N : Nat) (w wo : World) (g4 g5 : Nat) (s : ByteArray) (b : Bool) (i : Nat) (W : World) : Prop :=
  WinEnv w0 gK gX gF gm p A c l (N + i * winCnt 10) W ∧ W.heap[g4]? = some (.cells #[.string s, .bool b] 64 (0, 0)) ∧ W.heap[g5]? = some (.cells #[.func (.func 64) #[] #[.pointer (some ⟨gK, 0, none⟩), .pointer (some ⟨gX, 0, none⟩), .pointer (some ⟨gF, 0, none⟩)]] 61 (0, 0)) ∧ w.grownBy W (some gm) ∧ wo.heap.size ≤ W.heap.size
theorem bestI_pred (w0 : World) (gK gX gF gm : Nat) (p : Int) (A : Option Addr) (c : Nat) (l : List (List Int)) (IH : FindDoes w0 gK gX gF gm p A c l 10) (hl : l.length ≤ 10) (g4 g5 : Nat) (s : ByteArray) (b : Bool) (N : Nat) (w wo : World) (hd : (freeV s).length ≤ 10) (hs : s.size = l.length) (hne : g4 ≠ gm ∧ g5 ≠ gm) (hN : N + 20 * winCnt 10 < maxLen) :
    ∀ i W x, i < 2 * (freeV s).length → BestI w0 gK gX gF gm p A c l N w wo g4 g5 s b i W → x ∈ freeV s → Calls Tryd.prog 69 (#[.int .i64 x] ++ #[.pointer (some ⟨g5, 0, none⟩), .pointer (some ⟨g4, 0, none⟩)]) W fun e W' => e = .returned (.bool (netWin l (afterV s x b) (!b) != ownV b)) ∧ BestI w0 gK gX gF gm p A c l N w wo g4 g5 s b (i + 1) W' ∧ W.grownBy W' (some gm) := by
  rintro i W x hi ⟨hE, h4, h5, hg, hz⟩ hx
  have e2 : N + i * winCnt 10 + winCnt 10 = N + (i + 1) * winCnt 10 := by rw [Nat.succ_mul]; omega
  have hm : (i + 1) * winCnt 10 ≤ 20 * winCnt 10 := Nat.mul_le_mul_right _ (by omega)
  refine (bestPred w0 gK gX gF gm p A c l 10 IH hl g4 g5 s b (N + i * winCnt 10) W x h4 h5 hne hx (by omega) hs hE (by omega)).mono ?_
  rintro e W' ⟨rfl, hE', hG⟩
  exact ⟨rfl, ⟨e2 ▸ hE', blk_grownB h4 hG hne.1, blk_grownB h5 hG hne.2, hg.trans hG, Nat.le_trans hz hG.size⟩, hG⟩
theorem grown_set {w W : World} {gm g j : Nat} (h : w.grownBy W (some gm)) (hg : w.heap.size ≤ g) (v : Value) : w.grownBy (W.setCell ⟨g, j, none⟩ v) (some gm) :=
  ⟨h.os, h.tape, h.output, by have := h.size; simpa [World.setCell] using this, fun i hi hne => (Below.heap_setCell W ⟨g, j, none⟩ v i (by show i ≠ g; omega)).trans (h.block i hi hne)⟩
theorem bestI_set (w0 : World) (gK gX gF gm : Nat) (p : Int) (A : Option Addr) (c : Nat) (l : List (List Int)) (N : Nat) (w wo : World) (g4 g5 : Nat) (s : ByteArray) (b : Bool) (hgb : gK < w.heap.size ∧ gX < w.heap.size ∧ gF < w.heap.size ∧ gm < w.heap.size ∧ w0.heap.size ≤ w.heap.size) (hw : w.heap.size ≤ wo.heap.size) (h4 : g4 < wo.heap.size) (h5 : g5 < wo.heap.size) :
    ∀ i W gb j v, wo.heap.size ≤ gb → BestI w0 gK gX gF gm p A c l N w wo g4 g5 s b i W → BestI w0 gK gX gF gm p A c l N w wo g4 g5 s b i (W.setCell ⟨gb, j, none⟩ v) := by
  rintro i W gb j v hgb2 ⟨hE, k4, k5, hg, hz⟩
  refine ⟨hE.set v (by omega) (by omega), blk_far (p := ⟨gb, j, none⟩) k4 (show g4 ≠ gb by omega) v, blk_far (p := ⟨gb, j, none⟩) k5 (show g5 ≠ gb by omega) v, grown_set hg (by omega) v, ?_⟩
  simpa [World.setCell] using hz
set_option maxHeartbeats 8000000 in
set_option maxRecDepth 100000 in
theorem impl_Net_best.calls (w0 : World) (gK gX gF gm : Nat) (p : Int) (A : Option Addr) (c : Nat) (l : List (List Int)) (hv : isNetV p l = true) (hr : Kd.C (Kd.slice 2 (Kd.int .i64)) w0 A l.length l) (hc : l.length ≤ c) (s : ByteArray) (b : Bool) (N : Nat) (w : World) (hs : s.size = l.length) (hE : WinEnv w0 gK gX gF gm p A c l N w) (hN : N + 20 * winCnt 10 < maxLen) :
    Calls Tryd.prog 47 #[.agg #[.int .i64 p, .slice A l.length c], .agg #[.string s, .bool b], .func (.func 64) #[] #[.pointer (some ⟨gK, 0, none⟩), .pointer (some ⟨gX, 0, none⟩), .pointer (some ⟨gF, 0, none⟩)]] w fun e w' => ∃ v0_ : Value, e = .returned v0_ ∧ Kd.R (Kd.int .i64) 2 w' w.heap.size (fun _ => True) v0_ (bestV l s b) ∧ WinEnv w0 gK gX gF gm p A c l (N + 20 * winCnt 10) w' ∧ w.grownBy w' (some gm) := by
  have hl := (netEdges hv).1.1
  have hov : impl_Net_over.f p l s = some (ovV l s) := by unfold impl_Net_over.f; rw [if_pos ⟨hv, hs⟩]
  have hfl : (freeV s).length ≤ s.size := chosenTo_le _ _
  have hfr : impl_turn_open.f s b = some (freeV s) := by unfold impl_turn_open.f; rw [if_pos (by omega)]
  have HFD := Aside0.mk (find_all w0 gK gX gF gm p A c l hv hr hc 10)
  have HE := Aside0.mk hE
  have HFL := Aside0.mk (show (freeV s).length ≤ 10 by omega)
  have HFR := Aside0.mk hfr
  have HL10 := Aside0.mk hl
  have HSS := Aside0.mk hs
  have HNB := Aside0.mk hN
  have HR := Aside0.mk hr
  have HC0 := Aside0.mk hc
  have HGM := Aside0.mk hE.memo.lt
  have HBW := Aside0.mk hE.below
  have HGB := Aside0.mk (show gK < w.heap.size ∧ gX < w.heap.size ∧ gF < w.heap.size ∧ gm < w.heap.size ∧ w0.heap.size ≤ w.heap.size from ⟨blk_lt hE.hk, blk_lt hE.hx, blk_lt hE.hf, hE.memo.lt, hE.below.size⟩)
  have HB := Aside0.mk (Below.refl w.heap.size w)
  have hu := Tryd.underlying64
  have hu2 := Tryd.underlying28
  have hrf := fun (w : World) (a : Addr) (m : Mode) (f : Fn) (t b : Array Value) => @run_store_func Tryd.prog w a m f t b
  unfold bestV
  generalize hov2 : ovV l s = ov at hov ⊢
  have HOV := Aside0.mk hov
  clear hl hov hfl hfr hE hs hN hr hc hv hov2
  by_cases ho : ov = 0
  · have hoz : (ov != 0) = false := bne_eq_false_iff_eq.mpr ho
    rw [if_pos ho]
    clear ho
    go_enter Tryd.func47, Tryd.ntmps47
    go_wp2_with (first | ((with_reducible refine gate_dst (N := 3) rfl ?_); refine box_event ?hg (N := 3) ?hd (cs := #[.int .i64 p, .slice A l.length c]) (t := 28) ?hr ?_; (case hd => rfl); (case hg => rfl); (case hr => first | (go_simp; done) | (go_simp; rfl)); intro g3 hg_ w_ hbox hb; have HX3 := Aside0.mk hbox; have HG3 := Aside0.mk (show w.heap.size ≤ g3 by have := below_size HB.out; omega); clear hbox hg_; have nHB_ := Aside0.mk (below_step HB.out hb); clear HB hb; have HB := nHB_; clear nHB_; have hc30 := (blk_cell HX3.out 0).trans rfl; have hc31 := (blk_cell HX3.out 1).trans rfl) | ((with_reducible refine gate_dst (N := 4) rfl ?_); refine box_event ?hg (N := 4) ?hd (cs := #[.string s, .bool b]) (t := 64) ?hr ?_; (case hd => rfl); (case hg => rfl); (case hr => first | (go_simp; done) | (go_simp; rfl)); intro g4 hg_ w_ hbox hb; have HX4 := Aside0.mk hbox; have HG4 := Aside0.mk (show w.heap.size ≤ g4 ∧ g3 ≠ g4 by have := below_size HB.out; have := blk_lt HX3.out; omega); (try clear hc30); (try clear hc31); clear hbox hg_; have nHB_ := Aside0.mk (below_step HB.out hb); have nHX3_ := Aside0.mk (blk_below HX3.out hb); clear HB HX3 hb; have HB := nHB_; have HX3 := nHX3_; clear nHB_ nHX3_; have hc30 := (blk_cell HX3.out 0).trans rfl; have hc31 := (blk_cell HX3.out 1).trans rfl; have hc40 := (blk_cell HX4.out 0).trans rfl; have hc41 := (blk_cell HX4.out 1).trans rfl) | ((with_reducible refine gate_dst (N := 5) rfl ?_); refine box_event ?hg (N := 5) ?hd (cs := #[.func (.func 64) #[] #[.pointer (some ⟨gK, 0, none⟩), .pointer (some ⟨gX, 0, none⟩), .pointer (some ⟨gF, 0, none⟩)]]) (t := 61) ?hr ?_; (case hd => rfl); (case hg => rfl); (case hr => first | (go_simp; done) | (go_simp; rfl)); intro g5 hg_ w_ hbox hb; have HX5 := Aside0.mk hbox; have HG5 := Aside0.mk (show w.heap.size ≤ g5 ∧ g3 ≠ g5 ∧ g4 ≠ g5 by have := below_size HB.out; have := blk_lt HX3.out; have := blk_lt HX4.out; omega); (try clear hc30); (try clear hc31); (try clear hc40); (try clear hc41); clear hbox hg_; have nHB_ := Aside0.mk (below_step HB.out hb); have nHX3_ := Aside0.mk (blk_below HX3.out hb); have nHX4_ := Aside0.mk (blk_below HX4.out hb); clear HB HX3 HX4 hb; have HB := nHB_; have HX3 := nHX3_; have HX4 := nHX4_; clear nHB_ nHX3_ nHX4_; have hc30 := (blk_cell HX3.out 0).trans rfl; have hc31 := (blk_cell HX3.out 1).trans rfl; have hc40 := (blk_cell HX4.out 0).trans rfl; have hc41 := (blk_cell HX4.out 1).trans rfl; have hc50 := (blk_cell HX5.out 0).trans rfl) | (go_at_call 36; refine (impl_Net_over.calls p A c l s ov _ (Kd.C_below HR.out (below_step HBW.out HB.out)) HC0.out HOV.out).mono ?_; rintro e wo ⟨rfl, hb⟩; (try clear hc30); (try clear hc31); (try clear hc40); (try clear hc41); (try clear hc50); have nHB_ := Aside0.mk (below_step HB.out hb); have nHX3_ := Aside0.mk (blk_below HX3.out hb); have nHX4_ := Aside0.mk (blk_below HX4.out hb); have nHX5_ := Aside0.mk (blk_below HX5.out hb); clear HB HX3 HX4 HX5 hb; have HB := nHB_; have HX3 := nHX3_; have HX4 := nHX4_; have HX5 := nHX5_; clear nHB_ nHX3_ nHX4_ nHX5_; have hc30 := (blk_cell HX3.out 0).trans rfl; have hc31 := (blk_cell HX3.out 1).trans rfl; have hc40 := (blk_cell HX4.out 0).trans rfl; have hc41 := (blk_cell HX4.out 1).trans rfl; have hc50 := (blk_cell HX5.out 0).trans rfl) | (go_at_call 49; have HX4o := Aside0.mk HX4.out; have HX5o := Aside0.mk HX5.out; have HBo := Aside0.mk HB.out; refine (impl_turn_open.calls s b (freeV s) _ HFR.out).mono ?_; rintro e w31 ⟨v31, rfl, ho, hb⟩; have HO := Aside0.mk ho; have HB31 := Aside0.mk hb; (try clear hc30); (try clear hc31); (try clear hc40); (try clear hc41); (try clear hc50); clear ho; have nHB_ := Aside0.mk (below_step HB.out hb); have nHX3_ := Aside0.mk (blk_below HX3.out hb); have nHX4_ := Aside0.mk (blk_below HX4.out hb); have nHX5_ := Aside0.mk (blk_below HX5.out hb); clear HB HX3 HX4 HX5 hb; have HB := nHB_; have HX3 := nHX3_; have HX4 := nHX4_; have HX5 := nHX5_; clear nHB_ nHX3_ nHX4_ nHX5_; have hc30 := (blk_cell HX3.out 0).trans rfl; have hc31 := (blk_cell HX3.out 1).trans rfl; have hc40 := (blk_cell HX4.out 0).trans rfl; have hc41 := (blk_cell HX4.out 1).trans rfl; have hc50 := (blk_cell HX5.out 0).trans rfl) | (go_at_call 68; refine (slices_DeleteFunc_int64_int64.callsI 69 #[.pointer (some ⟨g5, 0, none⟩), .pointer (some ⟨g4, 0, none⟩)] (fun k => netWin l (afterV s k b) (!b) != ownV b) eg_bpred (BestI w0 gK gX gF gm p A c l N w wo g4 g5 s b) gm (fun _ => True) v31 (freeV s) wo _ ⟨by rw [Nat.zero_mul]; exact HE.out.step HB.out, HX4.out, HX5.out, grown_of_below HB.out _, HB31.out.size⟩ (bestI_pred w0 gK gX gF gm p A c l HFD.out HL10.out g4 g5 s b N w wo HFL.out HSS.out (by have := HGM.out; have := HG4.out; have := HG5.out; omega) HNB.out) (bestI_set w0 gK gX gF gm p A c l N w wo g4 g5 s b HGB.out (below_size HBo.out) (blk_lt HX4o.out) (blk_lt HX5o.out)) (by have := below_size HBo.out; have := HGM.out; omega) (fun i W h => h.2.2.2.2) HO.out (by have := HFL.out; omega)).mono ?_; rintro e w32 ⟨v32, rfl, ho, i, hi, hI⟩; have HO2 := Aside0.mk ho; have HII := Aside0.mk hi; have HI := Aside0.mk hI; clear ho hi hI))
    go_ret
    have e : (fun x => !(netWin l (afterV s x b) (!b) != ownV b)) = fun k => netWin l (afterV s k b) (!b) == ownV b := by
      funext x; simp [bne]
    refine ⟨_, rfl, ?_, HI.out.1.mono (by have := Nat.mul_le_mul_right (winCnt 10) (show i ≤ 20 by have := HII.out; have := HFL.out; omega); omega), HI.out.2.2.2.1⟩
    have h := Kd.R_lower HO2.out (below_size HBo.out)
    rw [e] at h
    exact h
  · have hoz : (ov != 0) = true := bne_iff_ne.mpr ho
    rw [if_neg ho]
    clear ho
    go_enter Tryd.func47, Tryd.ntmps47
    go_wp2_with (first | ((with_reducible refine gate_dst (N := 3) rfl ?_); refine box_event ?hg (N := 3) ?hd (cs := #[.int .i64 p, .slice A l.length c]) (t := 28) ?hr ?_; (case hd => rfl); (case hg => rfl); (case hr => first | (go_simp; done) | (go_simp; rfl)); intro g3 hg_ w_ hbox hb; have HX3 := Aside0.mk hbox; have HG3 := Aside0.mk (show w.heap.size ≤ g3 by have := below_size HB.out; omega); clear hbox hg_; have nHB_ := Aside0.mk (below_step HB.out hb); clear HB hb; have HB := nHB_; clear nHB_; have hc30 := (blk_cell HX3.out 0).trans rfl; have hc31 := (blk_cell HX3.out 1).trans rfl) | ((with_reducible refine gate_dst (N := 4) rfl ?_); refine box_event ?hg (N := 4) ?hd (cs := #[.string s, .bool b]) (t := 64) ?hr ?_; (case hd => rfl); (case hg => rfl); (case hr => first | (go_simp; done) | (go_simp; rfl)); intro g4 hg_ w_ hbox hb; have HX4 := Aside0.mk hbox; have HG4 := Aside0.mk (show w.heap.size ≤ g4 ∧ g3 ≠ g4 by have := below_size HB.out; have := blk_lt HX3.out; omega); (try clear hc30); (try clear hc31); clear hbox hg_; have nHB_ := Aside0.mk (below_step HB.out hb); have nHX3_ := Aside0.mk (blk_below HX3.out hb); clear HB HX3 hb; have HB := nHB_; have HX3 := nHX3_; clear nHB_ nHX3_; have hc30 := (blk_cell HX3.out 0).trans rfl; have hc31 := (blk_cell HX3.out 1).trans rfl; have hc40 := (blk_cell HX4.out 0).trans rfl; have hc41 := (blk_cell HX4.out 1).trans rfl) | ((with_reducible refine gate_dst (N := 5) rfl ?_); refine box_event ?hg (N := 5) ?hd (cs := #[.func (.func 64) #[] #[.pointer (some ⟨gK, 0, none⟩), .pointer (some ⟨gX, 0, none⟩), .pointer (some ⟨gF, 0, none⟩)]]) (t := 61) ?hr ?_; (case hd => rfl); (case hg => rfl); (case hr => first | (go_simp; done) | (go_simp; rfl)); intro g5 hg_ w_ hbox hb; have HX5 := Aside0.mk hbox; have HG5 := Aside0.mk (show w.heap.size ≤ g5 ∧ g3 ≠ g5 ∧ g4 ≠ g5 by have := below_size HB.out; have := blk_lt HX3.out; have := blk_lt HX4.out; omega); (try clear hc30); (try clear hc31); (try clear hc40); (try clear hc41); clear hbox hg_; have nHB_ := Aside0.mk (below_step HB.out hb); have nHX3_ := Aside0.mk (blk_below HX3.out hb); have nHX4_ := Aside0.mk (blk_below HX4.out hb); clear HB HX3 HX4 hb; have HB := nHB_; have HX3 := nHX3_; have HX4 := nHX4_; clear nHB_ nHX3_ nHX4_; have hc30 := (blk_cell HX3.out 0).trans rfl; have hc31 := (blk_cell HX3.out 1).trans rfl; have hc40 := (blk_cell HX4.out 0).trans rfl; have hc41 := (blk_cell HX4.out 1).trans rfl; have hc50 := (blk_cell HX5.out 0).trans rfl) | (go_at_call 36; refine (impl_Net_over.calls p A c l s ov _ (Kd.C_below HR.out (below_step HBW.out HB.out)) HC0.out HOV.out).mono ?_; rintro e wo ⟨rfl, hb⟩; (try clear hc30); (try clear hc31); (try clear hc40); (try clear hc41); (try clear hc50); have nHB_ := Aside0.mk (below_step HB.out hb); have nHX3_ := Aside0.mk (blk_below HX3.out hb); have nHX4_ := Aside0.mk (blk_below HX4.out hb); have nHX5_ := Aside0.mk (blk_below HX5.out hb); clear HB HX3 HX4 HX5 hb; have HB := nHB_; have HX3 := nHX3_; have HX4 := nHX4_; have HX5 := nHX5_; clear nHB_ nHX3_ nHX4_ nHX5_; have hc30 := (blk_cell HX3.out 0).trans rfl; have hc31 := (blk_cell HX3.out 1).trans rfl; have hc40 := (blk_cell HX4.out 0).trans rfl; have hc41 := (blk_cell HX4.out 1).trans rfl; have hc50 := (blk_cell HX5.out 0).trans rfl))
    go_ret
    exact ⟨_, rfl, Kd.R_nil _ _ _ _ _, (HE.out.step HB.out).mono (by omega), grown_of_below HB.out _⟩

end Go.Proofs.YtcjeccohlmmfoaaDoor.F
