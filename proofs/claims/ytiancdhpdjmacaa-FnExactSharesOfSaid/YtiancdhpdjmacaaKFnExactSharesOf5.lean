-- written by the session's program xp.py over the kit's print program, and by hand; texts joined by pack.py
import Derived.Test.YtiancdhpdjmacaaKFnExactSharesOf4
namespace Go.Proofs.Ytiancdhpdjmacaa.F
open Go.RowKit Go.Proofs.YtiancdhpdjmacaaW.PrintWords Go.Proofs.YtiancdhpdjmacaaW.PrintLast Go.Proofs.YtiancdhpdjmacaaW.PrintMore
attribute [local go_sem] max2_int min2_int max_two min_two max_three min_three max_four min_four   -- for this text's walks alone
set_option linter.unusedVariables false
set_option linter.unusedSimpArgs false

-- What eachFleet needs of the function that adds a fleet to the shares. (for 112)
-- ShEnv EachOk InPl implAgrees_ev implWhole_ev shareRow placesOf_bound
def agreeing (fls : List (List Int)) (T : List S93) : List (List Int) := fls.filter fun fl => agFrom fl 0 T
theorem agreeing_take (fls : List (List Int)) (T : List S93) {i : Nat} {fl : List Int} (h : fls[i]? = some fl) : agreeing (fls.take (i + 1)) T = if agFrom fl 0 T = true then agreeing (fls.take i) T ++ [fl] else agreeing (fls.take i) T := by
  obtain ⟨hi, he⟩ := List.getElem?_eq_some_iff.1 h
  unfold agreeing
  rw [List.take_succ_eq_append_getElem hi, List.filter_append, he]
  by_cases hb : agFrom fl 0 T = true
  · rw [if_pos hb]; simp [hb]
  · rw [if_neg hb]; simp [hb]
theorem fleets_in {W H : Nat} {ships : List Int} : ∀ (d : Nat) (list : List Int), InPl W H ships list → list.length + d = ships.length → ∀ fl ∈ fleetsFrom W H ships d list, InPl W H ships fl ∧ fl.length = ships.length
  | 0, list, hin, hd, fl, hfl => by
    have e : fl = list := by simpa [fleetsFrom] using hfl
    subst e
    exact ⟨hin, by omega⟩
  | d + 1, list, hin, hd, fl, hfl => by
    unfold fleetsFrom at hfl
    obtain ⟨own, ho, h2⟩ := List.mem_flatMap.1 hfl
    by_cases hg : goesV ships list own = true
    · rw [if_pos hg] at h2
      exact fleets_in d (list ++ [own]) (hin.snoc ho) (by simp; omega) fl h2
    · rw [if_neg hg] at h2
      cases h2
theorem inPl_num {W H : Nat} (hW : 1 ≤ W ∧ W ≤ 5) (hH : H ≤ 5) {ships : List Int} (hin : ∀ j : Nat, j < ships.length → inW (rd ships (j : Int)) 1 5 = true) {fl : List Int} (h : InPl W H ships fl) (hl : fl.length = ships.length) : ∀ x ∈ fl, ∃ m : Nat, x = (m : Int) ∧ m < 2 ^ (W * H) := fun x hx => by
  obtain ⟨j, hj, rfl⟩ := List.mem_iff_getElem.1 hx
  obtain ⟨n, hn, h1, _⟩ := inW_five (hin j (by omega))
  have := h j hj
  unfold placeOf at this
  rw [hn, Int.toNat_natCast] at this
  exact placesOf_bound hW.1 hW.2 hH h1 _ this
theorem cells_le {W H : Nat} (hW : W ≤ 5) (hH : H ≤ 5) : W * H ≤ 25 := Nat.mul_le_mul hW hH
theorem orAll_in {W H : Nat} (hW : 1 ≤ W ∧ W ≤ 5) (hH : H ≤ 5) {fl : List Int} (h : ∀ x ∈ fl, ∃ m : Nat, x = (m : Int) ∧ m < 2 ^ (W * H)) : ∃ V : Nat, orAll fl = (V : Int) ∧ V < 2 ^ (W * H) := orAll_nat (cells_le hW.2 hH) fl 0 (Nat.two_pow_pos _) h
theorem bit_add {V b c : Nat} (hV : V < 2 ^ b) (hb : b ≤ 25) (hc : c ≤ 64) : Go.bits .and .i64 (shr .i64 (V : Int) (c : Int)) 1 = if bitIn (V : Int) (c : Int) = true then 1 else 0 := by
  have h25 : 2 ^ b ≤ 33554432 := Nat.le_trans (Nat.pow_le_pow_right (by omega) hb) (by simp)
  unfold bitIn
  rw [bit_nat V c (Nat.lt_of_lt_of_le hV (Nat.le_trans h25 pow25_le)) hc]
  by_cases h : V.testBit c = true <;> simp [h]
/-- What lies there behind i fleets. -/
structure ShI (w00 : World) (g3 ga gb go co : Nat) (A3 : Option Addr) (c3 : Nat) (T : List S93) (N : Nat) (done : List (List Int)) (W : World) : Prop where
  below : Below w00.heap.size w00 W
  b3 : W.heap[g3]? = some (.cells #[.slice A3 T.length c3] 55 (0, 0))
  bb : W.heap[gb]? = some (.cells #[.slice (some ⟨go, 0, none⟩) N co] 22 (0, 0))
  ba : W.heap[ga]? = some (.cells #[.int .i64 (done.length : Int)] 2 (0, 0))
  row : Kd.R (Kd.int .i64) 2 W w00.heap.size (fun k => k = go) (.slice (some ⟨go, 0, none⟩) N co) (sharesV N done)
def ShareI (w00 : World) (g3 ga gb go co : Nat) (A3 : Option Addr) (c3 : Nat) (T : List S93) (N : Nat) (fleets : List (List Int)) (i : Nat) (M : Nat → Prop) (W : World) : Prop := M = (fun k => k = ga ∨ k = go) ∧ ShI w00 g3 ga gb go co A3 c3 T N (agreeing (fleets.take i) T) W
theorem share_ok {W0 H0 : Nat} (hW : 1 ≤ W0 ∧ W0 ≤ 5) (hH : 1 ≤ H0 ∧ H0 ≤ 5) {ships : List Int} (hs3 : ships.length ≤ 3) (hin : ∀ j : Nat, j < ships.length → inW (rd ships (j : Int)) 1 5 = true) {w00 : World} {g3 ga gb go co : Nat} {A3 : Option Addr} {c3 : Nat} {T : List S93} (hTl : T.length ≤ 1048576) (hTs : SeaCells (T.map fun x => x.f0)) (hne : ShNe w00 g3 ga gb go) (hT : Kd.C k93 w00 A3 T.length T) (hTc : T.length ≤ c3) (hf : (fleetsFrom W0 H0 ships ships.length []).length ≤ 1000000) :
    EachOk 0 112 #[.pointer (some ⟨g3, 0, none⟩), .pointer (some ⟨ga, 0, none⟩), .pointer (some ⟨gb, 0, none⟩)] (fleetsFrom W0 H0 ships ships.length []) (ShareI w00 g3 ga gb go co A3 c3 T (W0 * H0) (fleetsFrom W0 H0 ships ships.length [])) where
  stay := fun i M W W' h hb => ⟨h.1, ⟨below_step h.2.below hb, blk_below h.2.b3 hb, blk_below h.2.bb hb, blk_below h.2.ba hb, Kd.R_below h.2.row hb⟩⟩
  own := fun i M W h k hk => by
    rw [h.1] at hk
    rcases hk with rfl | rfl
    · exact blk_lt h.2.ba
    · exact Kd.R_lt h.2.row _ rfl
  call := fun i M W A c list h hl hcl hlc _ => by
    have hmem : list ∈ fleetsFrom W0 H0 ships ships.length [] := List.mem_of_getElem? hl
    obtain ⟨hpl, hlen⟩ := fleets_in ships.length [] InPl.nil (by simp) list hmem
    have hnum := inPl_num hW hH.2 hin hpl hlen
    have h25 : 2 ^ (W0 * H0) ≤ 33554432 := Nat.le_trans (Nat.pow_le_pow_right (by omega) (cells_le hW.2 hH.2)) (by simp)
    have hN : NumFleet list := fun x hx => by obtain ⟨m, e, hm⟩ := hnum x hx; exact ⟨m, e, Nat.lt_of_lt_of_le hm h25⟩
    obtain ⟨ka, hka⟩ := implAgrees_ev hN (by omega) T hTl hTs
    obtain ⟨kw, hkw⟩ := implWhole_ev list (by omega)
    obtain ⟨V, hV, hV2⟩ := orAll_in hW hH.2 hnum
    obtain ⟨hM, hS⟩ := h
    subst hM
    have hp : 0 < W0 * H0 := Nat.mul_pos (by omega) (by omega)
    have hc25 := cells_le hW.2 hH.2
    have hd : (agreeing ((fleetsFrom W0 H0 ships ships.length []).take i) T).length ≤ 1000000 := by
      unfold agreeing
      refine Nat.le_trans (List.length_filter_le _ _) ?_
      rw [List.length_take]
      omega
    refine (impl_Sea_shares_1.does w00 g3 ga gb go co A3 c3 T (W0 * H0) A list c (agreeing ((fleetsFrom W0 H0 ships ships.length []).take i) T) W ka kw hne hT hTc hlc ⟨hp, hc25⟩ hd (hka ka (Nat.le_refl _)) (hkw kw (Nat.le_refl _)) (fun j hj => by rw [hV]; exact bit_add hV2 hc25 (by omega)) ⟨hS.below, hS.b3, hS.bb, hS.ba, hS.row, hcl, Frame.refl _ _⟩).mono ?_
    rintro e w' ⟨rfl, hE⟩
    rw [← agreeing_take _ T hl] at hE
    exact ⟨rfl, _, ⟨rfl, ⟨hE.below, hE.b3, hE.bb, hE.ba, hE.row⟩⟩, hE.fr.x⟩
theorem chosen_step {V N : Nat} (hV : V < 2 ^ N) (hN : N ≤ 25) {j : Nat} (h : j < (chosenTo (bitIn (V : Int)) 25).length) : ∃ c : Nat, (chosenTo (bitIn (V : Int)) 25)[j] = (c : Int) ∧ c < N ∧ (c : Int) ∉ (chosenTo (bitIn (V : Int)) 25).take j := by
  obtain ⟨h0, h1, h2⟩ := (chosen_iff _ _ _).1 (List.getElem_mem h)
  obtain ⟨c, hc⟩ : ∃ c : Nat, (chosenTo (bitIn (V : Int)) 25)[j] = (c : Int) := ⟨((chosenTo (bitIn (V : Int)) 25)[j]).toNat, by omega⟩
  rw [hc] at h0 h1 h2
  refine ⟨c, hc, ?_, fun hm => ?_⟩
  · refine Nat.lt_of_not_le (fun hle => ?_)
    rw [bitIn_high hV hN hle (by omega)] at h2
    cases h2
  · obtain ⟨i, hi, he⟩ := List.mem_iff_getElem.1 hm
    rw [List.length_take] at hi
    rw [List.getElem_take, ← hc] at he
    have := asc_lt _ 0 (chosen_asc (bitIn (V : Int)) 25) i j (by omega) h (by omega)
    omega
/-- What a fleet that agrees adds. -/
structure FleetNum (N : Nat) (fl : List Int) : Prop where
  len : fl.length ≤ 1000
  all : ∃ V : Nat, orAll fl = (V : Int) ∧ V < 2 ^ N
theorem fleets_num {W H : Nat} (hW : 1 ≤ W ∧ W ≤ 5) (hH : 1 ≤ H ∧ H ≤ 5) {ships : List Int} (hs3 : ships.length ≤ 3) (hin : ∀ j : Nat, j < ships.length → inW (rd ships (j : Int)) 1 5 = true) (T : List S93) : ∀ fl ∈ agreeing (fleetsFrom W H ships ships.length []) T, FleetNum (W * H) fl := fun fl h => by
  obtain ⟨hpl, hlen⟩ := fleets_in ships.length [] InPl.nil (by simp) fl (List.mem_filter.1 h).1
  exact ⟨by omega, orAll_in hW hH.2 (inPl_num hW hH.2 hin hpl hlen)⟩
/-! ### impl_Sea_shares: function 90 -/
-- EXTERNAL: by hand
-- impl_Sea_cells impl_Sea_eachFleet
-- EachOk ShI share_ok agreeing fleetsOf seaV_nat sea_ships sharesV_nil
def shotsIn (T : List S93) : Bool := T.all fun x => decide (0 ≤ x.f0) && decide (x.f0 ≤ 24)
theorem shotsIn_sea {T : List S93} (h : shotsIn T = true) : SeaCells (T.map fun x => x.f0) := fun x hx => by
  obtain ⟨y, hy, rfl⟩ := List.mem_map.1 hx
  have := List.all_eq_true.1 h y hy
  simpa using this
def impl_Sea_shares.f (a0_0 a0_1 : Int) (l0_2 : List Int) (l1 : List S93) : Option (Int × List Int) := if seaV a0_0 a0_1 l0_2 = true ∧ shotsIn l1 = true ∧ l1.length ≤ 1048576 then some (((agreeing (fleetsOf a0_0 a0_1 l0_2) l1).length : Int), sharesV (a0_0.toNat * a0_1.toNat) (agreeing (fleetsOf a0_0 a0_1 l0_2) l1)) else none
theorem blk_types_ne {W : World} {g g' t t' : Nat} {cs cs' : Array Value} (h : W.heap[g]? = some (.cells cs t (0, 0))) (h' : W.heap[g']? = some (.cells cs' t' (0, 0))) (ht : t ≠ t') : g ≠ g' := fun e => by
  subst e
  rw [h] at h'
  injection h' with h'
  injection h' with _ h2
  exact ht h2
theorem row_ne {W : World} {g t base go n co : Nat} {cs : Array Value} {ok : Nat → Prop} {xs : List Int} (h : W.heap[g]? = some (.cells cs t (0, 0))) (ho : Kd.R (Kd.int .i64) 2 W base ok (.slice (some ⟨go, 0, none⟩) n co) xs) (ht : 2 ≠ t) : g ≠ go := fun e => Kd.R_ne ho h ht (by rw [e]; rfl)
theorem share_start {w W : World} {g3 ga gb go co N : Nat} {A3 : Option Addr} {c3 : Nat} {T : List S93} (h3 : W.heap[g3]? = some (.cells #[.slice A3 T.length c3] 55 (0, 0))) (hC : W.heap[gb]? = some (.cells #[.slice none 0 0] 22 (0, 0))) (hA : W.heap[ga]? = some (.cells #[.int .i64 0] 2 (0, 0)))
    (ho : Kd.R (Kd.int .i64) 2 W w.heap.size (fun _ => True) (.slice (some ⟨go, 0, none⟩) N co) (sharesV N [])) (hB : Below w.heap.size w W) (hne : ShNe w g3 ga gb go) (hz : w.heap.size ≤ gb) : ShI w g3 ga gb go co A3 c3 T N [] (W.setCell ⟨gb, 0, none⟩ (.slice (some ⟨go, 0, none⟩) N co)) where
  below := below_set hB hz
  b3 := blk_far (p := ⟨gb, 0, none⟩) h3 (blk_types_ne h3 hC (by decide)) _
  bb := blk_put hC 0 _ rfl
  ba := blk_far (p := ⟨gb, 0, none⟩) hA (fun e => hne.ab e.symm) _
  row := Kd.R_mono (Kd.R_far (p := ⟨gb, 0, none⟩) (Kd.R_tight rfl ho) (fun k hk e => by subst e; injection hk with hk; exact hne.ob hk) _) (fun k hk => by injection hk)
theorem share_each (W0 H0 : Nat) (ships : List Int) (A2 : Option Addr) (c2 : Nat) (hw : 1 ≤ W0 ∧ W0 ≤ 5) (hh : 1 ≤ H0 ∧ H0 ≤ 5) (hsz : 1 ≤ ships.length ∧ ships.length ≤ 3) (hsin : ∀ j : Nat, j < ships.length → inW (rd ships (j : Int)) 1 5 = true) (hsc : ships.length ≤ c2)
    {w W : World} {g3 ga gb go co : Nat} {A3 : Option Addr} {c3 : Nat} {T : List S93} (hTl : T.length ≤ 1048576) (hTs : SeaCells (T.map fun x => x.f0)) (hne : ShNe w g3 ga gb go) (hT : Kd.C k93 w A3 T.length T) (hTc : T.length ≤ c3) (hR : Kd.C (Kd.int .i64) w A2 ships.length ships) {N : Nat} (hN : W0 * H0 = N) (hS : ShI w g3 ga gb go co A3 c3 T N [] W) :
    Calls Try.prog 65 #[.agg #[.int .i64 (W0 : Int), .int .i64 (H0 : Int), .slice A2 ships.length c2], .func (.func 112) #[] #[.pointer (some ⟨g3, 0, none⟩), .pointer (some ⟨ga, 0, none⟩), .pointer (some ⟨gb, 0, none⟩)]] W fun e w' => e = .returned (.tuple #[]) ∧ ShI w g3 ga gb go co A3 c3 T N (agreeing (fleetsFrom W0 H0 ships ships.length []) T) w' := by
  subst hN
  have eg112 : ∀ args w, (callFunc 112 args).run Try.prog w = .ok (.enter 112 args) w := enters_of Try.func112 (by kernel_rfl) rfl
  have hpl : ∀ j, (placeOf W0 H0 ships j).length ≤ 100 := fun j => placeOf_len hw.2 hh.2 ships j
  have hfl : (fleetsFrom W0 H0 ships ships.length []).length ≤ 1000000 := by
    refine Nat.le_trans (fleets_len W0 H0 ships hpl ships.length []) ?_
    exact Nat.le_trans (Nat.pow_le_pow_right (by omega) hsz.2) (by simp)
  have hclr : Clear (fun k => k = ga ∨ k = go) W A2 ships := by
    refine ⟨Kd.C_below hR hS.below, fun h0 a ha => ?_⟩
    subst ha
    obtain ⟨b, e, hcb⟩ := Kd.at_int hR 0 (by omega) (by omega)
    injection e with e
    subst e
    have h1 := World.block_lt_of_cell? _ _ hcb
    rw [add_block] at h1
    exact ⟨Nat.lt_of_lt_of_le h1 hS.below.size, fun h => by have := hne.za; have := hne.zo; rcases h with h | h <;> omega⟩
  refine (impl_Sea_eachFleet.does W0 H0 ships A2 c2 112 #[.pointer (some ⟨g3, 0, none⟩), .pointer (some ⟨ga, 0, none⟩), .pointer (some ⟨gb, 0, none⟩)] (ShareI w g3 ga gb go co A3 c3 T (W0 * H0) (fleetsFrom W0 H0 ships ships.length [])) 0 eg112 (share_ok hw hh hsz.2 hsin hTl hTs hne hT hTc hfl) hw hh hsz hsin hsc hpl W (Nat.zero_le _) (fun k => k = ga ∨ k = go) ⟨rfl, hS⟩ hclr).mono ?_
  rintro e w' ⟨rfl, M', hi, hf⟩
  have hi2 := hi.2
  rw [List.take_length] at hi2
  exact ⟨rfl, hi2⟩
def impl_Sea_shares.T1 : Bool × List (List Nat × List Nat) := (true, [([], []), ([0], [0]), ([1, 1], [1]), ([], []), ([], []), ([3, 1, 3, 4], [3]), ([4, 2, 5, 0, 1, 2, 3, 4, 5], [2, 4])])
def impl_Sea_shares.B1 : List Nat := [0, 1, 3, 0, 0, 27, 63]
theorem impl_Sea_shares.tab1 : rtab .any (opsOf Try.f90 1) = impl_Sea_shares.T1 := by kernel_rfl
theorem impl_Sea_shares.bits1 : waitsOk impl_Sea_shares.T1.2 impl_Sea_shares.B1 = true := by kernel_rfl
theorem wrap_nat_ {N : Nat} (h : N ≤ 25) : wrap64 (N : Int) = (N : Int) := by unfold wrap64; omega
set_option maxHeartbeats 16000000 in
set_option maxRecDepth 100000 in
theorem impl_Sea_shares.calls (a0_0 a0_1 : Int) (A2 : Option Addr) (c2 : Nat) (ships : List Int) (A3 : Option Addr) (c3 : Nat) (T : List S93) (r1 : Int) (r2 : List Int) (w : World) (hr0_2 : Kd.C (Kd.int .i64) w A2 ships.length ships) (hc0_2 : ships.length ≤ c2) (hr1 : Kd.C k93 w A3 T.length T) (hc1 : T.length ≤ c3) (h : impl_Sea_shares.f a0_0 a0_1 ships T = some (r1, r2)) :
    Calls Try.prog 90 #[.agg #[.int .i64 a0_0, .int .i64 a0_1, .slice A2 ships.length c2], .slice A3 T.length c3] w fun e w' => ∃ v1_ : Value, e = .returned (.tuple #[.int .i64 r1, v1_]) ∧ Kd.R (Kd.int .i64) 2 w' w.heap.size (fun _ => True) v1_ r2 ∧ Below w.heap.size w w' := by
  unfold impl_Sea_shares.f at h
  split at h
  case isFalse => cases h
  rename_i hs
  simp only [Option.some.injEq, Prod.mk.injEq] at h
  obtain ⟨hr1_, hr2_⟩ := h
  obtain ⟨hs, hsi, hTl⟩ := hs
  obtain ⟨⟨W0, rfl, hw1, hw5⟩, ⟨H0, rfl, hh1, hh5⟩, hs1, hs3⟩ := seaV_nat hs
  have HW := Aside0.mk (And.intro hw1 hw5)
  have HH := Aside0.mk (And.intro hh1 hh5)
  have HSz := Aside0.mk (And.intro hs1 hs3)
  have HSI := Aside0.mk (sea_ships hs)
  have HTl := Aside0.mk hTl
  have HTs := Aside0.mk (shotsIn_sea hsi)
  have HT0 := Aside0.mk hr1
  have HTc := Aside0.mk hc1
  have HSh := Aside0.mk hr0_2
  have HC2 := Aside0.mk hc0_2
  unfold fleetsOf at hr1_ hr2_
  simp only [Int.toNat_natCast] at hr1_ hr2_
  obtain ⟨D, hD⟩ : ∃ D, agreeing (fleetsFrom W0 H0 ships ships.length []) T = D := ⟨_, rfl⟩
  rw [hD] at hr1_ hr2_
  have HDn := Aside0.mk hD
  obtain ⟨N, hN⟩ : ∃ N, W0 * H0 = N := ⟨_, rfl⟩
  rw [hN] at hr2_
  have HNN0 := Aside0.mk hN
  have hN25 : N ≤ 25 := by rw [← hN]; exact cells_le hw5 hh5
  have HNp := Aside0.mk (show 0 < N by rw [← hN]; exact Nat.mul_pos (by omega) (by omega))
  have HN0 := Aside0.mk (show (0 : Int) ≤ (N : Int) by omega)
  have HN8 := Aside0.mk (show ((N : Int)).toNat * 8 ≤ 281474976710656 by rw [Int.toNat_natCast]; omega)
  have HCel := Aside0.mk (show impl_Sea_cells.f (W0 : Int) (H0 : Int) ships = some (N : Int) by
    unfold impl_Sea_cells.f
    rw [show (W0 : Int) * (H0 : Int) = (N : Int) by rw [← hN, Int.natCast_mul], wrap_nat_ hN25])
  subst hr1_ hr2_
  have hu28 := Try.underlying28
  clear hr0_2 hc0_2 hr1 hc1 hs hsi hTl hw1 hw5 hh1 hh5 hs1 hs3 hD hN hN25
  go_enter Try.func90, Try.ntmps90
  go_wp2_with (first | ((with_reducible refine gate_dst (N := 2) rfl ?_); refine box_event ?hg (N := 2) ?hd (cs := #[.int .i64 (W0 : Int), .int .i64 (H0 : Int), .slice A2 ships.length c2]) (t := 28) ?hr ?_; (case hd => rfl); (case hg => rfl); (case hr => first | (go_simp; done) | (go_simp; rfl)); intro g2 hg2 w1 hbox hb; have H2 := Aside0.mk hbox; have HB := Aside0.mk hb; clear hbox hb hg2) | ((with_reducible refine gate_dst (N := 3) rfl ?_); refine box_event ?hg (N := 3) ?hd (cs := #[.slice A3 T.length c3]) (t := 55) ?hr ?_; (case hd => rfl); (case hg => rfl); (case hr => first | (go_simp; done) | (go_simp; rfl)); intro g3 hg3 w2 hbox hb; have H3 := Aside0.mk hbox; have n1_ := Aside0.mk (blk_below H2.out hb); have n2_ := Aside0.mk (below_step HB.out hb); clear H2 HB hbox hb hg3; have H2 := n1_; have HB := n2_; clear n1_ n2_))
  have u2_ := Aside0.mk (blk_drew H2.out)
  have u3_ := Aside0.mk (blk_drew H3.out)
  have uB_ := Aside0.mk (below_drew1 HB.out)
  clear H2 H3 HB
  have H2 := u2_
  have H3 := u3_
  have HB := uB_
  clear u2_ u3_ uB_
  refine start_ (n := 7) (S := fun w' => w'.cell? ⟨g2, 0, none⟩ = some (.int .i64 (W0 : Int)) ∧ w'.cell? ⟨g2, 1, none⟩ = some (.int .i64 (H0 : Int)) ∧ w'.cell? ⟨g2, 2, none⟩ = some (.slice A2 ships.length c2)) (ds := [6]) #[false, false, false, false, false, false, false] (by kernel_rfl) rfl rfl ⟨(blk_cell H2.out 0).trans rfl, (blk_cell H2.out 1).trans rfl, (blk_cell H2.out 2).trans rfl⟩ (fun hHeld => ?_)
  refine with_tabW impl_Sea_shares.tab1 impl_Sea_shares.bits1 (fun HT_ HW_ => ?_)
  generalize hq_ : w2.drew = wd_ at H2 H3 HB hHeld ⊢
  clear hq_
  refine take_ (i := 0) (N := some 8) (v := ?_) (a' := ?_) (flg_ 7 1) rfl rfl (take_ofW HT_.out HW_.out (by kernel_rfl)) (fun _ _ _ h => h) (Or.inl ⟨by rfl, ?_⟩) hHeld ?_ ?_
  rotate_left
  · rintro w' ⟨s0_, s1_, s2_⟩
    go_simp
    with_reducible rfl
  rotate_left
  · simp only [Act.put, sz_, s0_, s1_, i64_w, i32_w]
    rfl
  all_goals first
    | (refine three_ (l := #[true, false, false, false, false, false, false]) (i := 1) (j := 3) (k := 4) (Ni := some 9) (Nj := some 6) (Nk := some 7) #[true, true, false, false, false, false, false] #[true, false, false, true, false, false, false] #[true, false, false, false, true, false, false] rfl rfl rfl rfl rfl rfl (three_of HT_.out (by kernel_rfl)) (by decide) (by decide) (by decide) (fun K hK => ?_) (fun K hK => ?_) (fun K hK => ?_))
  all_goals first
    | (refine goes_ (N := some 9) Try.func73 (by kernel_rfl) rfl #[.agg #[.int .i64 (W0 : Int), .int .i64 (H0 : Int), .slice A2 ships.length c2]] (by rfl) rfl rfl (by (try simp only [List.map_toArray, List.map_cons, List.map_nil]); first | done | rfl) ?_; refine (impl_Sea_cells.calls (W0 : Int) (H0 : Int) A2 c2 ships (N : Int) wd_ (Kd.C_below HSh.out HB.out) HC2.out HCel.out).mono ?_; rintro e wd_ ⟨rfl, hb⟩; refine ⟨_, rfl, ?_⟩; (try (have u_ := Aside0.mk (blk_below H2.out hb); clear H2; have H2 := u_; clear u_)); (try (have u_ := Aside0.mk (blk_below H3.out hb); clear H3; have H3 := u_; clear u_)); (try (have u_ := Aside0.mk (below_step HB.out hb); clear HB; have HB := u_; clear u_)); (try (have u_ := Aside0.mk (Kd.R_below HO.out hb); clear HO; have HO := u_; clear u_)); (try (have u_ := Aside0.mk (blk_below HA.out hb); clear HA; have HA := u_; clear u_)); (try (have u_ := Aside0.mk (blk_below HC.out hb); clear HC; have HC := u_; clear u_)); clear hb; refine hK.out _ _ ⟨(blk_cell H2.out 0).trans rfl, (blk_cell H2.out 1).trans rfl, (blk_cell H2.out 2).trans rfl⟩ (fun hHeld => ?_); clear hK K; refine norm_ (a' := ?_) ?_ ?_; rotate_left; (· (show Act.put _ (some 9) _ = _; simp only [Act.put, sz_, s0_, s1_, i64_w, i32_w]; rfl)))
    | (refine value_ (N := some 6) (w1 := wd_.alloc (.cells #[.int .i64 0] 2 (0, 0))) (v := .pointer (some ⟨wd_.heap.size, 0, none⟩)) (by rfl) rfl ?_ ?_; (· (go_simp; (try rfl))); have hb := below_alloc (Below.refl wd_.heap.size wd_) (.cells #[.int .i64 0] 2 (0, 0)); have hnw := blk_new wd_ (.cells #[.int .i64 0] 2 (0, 0)); have hz := below_size HB.out; (try have HNN := Aside0.mk (show wd_.heap.size ≠ go by have := Kd.R_lt HO.out go rfl; omega)); (try (have u_ := Aside0.mk (blk_below H2.out hb); clear H2; have H2 := u_; clear u_)); (try (have u_ := Aside0.mk (blk_below H3.out hb); clear H3; have H3 := u_; clear u_)); (try (have u_ := Aside0.mk (below_step HB.out hb); clear HB; have HB := u_; clear u_)); (try (have u_ := Aside0.mk (Kd.R_below HO.out hb); clear HO; have HO := u_; clear u_)); (try (have u_ := Aside0.mk (blk_below HA.out hb); clear HA; have HA := u_; clear u_)); (try (have u_ := Aside0.mk (blk_below HC.out hb); clear HC; have HC := u_; clear u_)); clear hb; generalize wd_.alloc (.cells #[.int .i64 0] 2 (0, 0)) = wx_ at *; generalize wd_.heap.size = ga at *; have HA := Aside0.mk hnw; have HZA := Aside0.mk hz; clear hnw hz; refine hK.out _ _ ⟨(blk_cell H2.out 0).trans rfl, (blk_cell H2.out 1).trans rfl, (blk_cell H2.out 2).trans rfl⟩ (fun hHeld => ?_); clear hK K; refine norm_ (a' := ?_) ?_ ?_; rotate_left; (· (show Act.put _ (some 6) _ = _; simp only [Act.put, sz_, s0_, s1_, i64_w, i32_w]; rfl)); (try clear wd_); generalize wx_ = wd_ at *)
    | (refine value_ (N := some 7) (w1 := wd_.alloc (.cells #[.slice none 0 0] 22 (0, 0))) (v := .pointer (some ⟨wd_.heap.size, 0, none⟩)) (by rfl) rfl ?_ ?_; (· (go_simp; (try rfl))); have hb := below_alloc (Below.refl wd_.heap.size wd_) (.cells #[.slice none 0 0] 22 (0, 0)); have hnw := blk_new wd_ (.cells #[.slice none 0 0] 22 (0, 0)); have hz := below_size HB.out; (try (have u_ := Aside0.mk (blk_below H2.out hb); clear H2; have H2 := u_; clear u_)); (try (have u_ := Aside0.mk (blk_below H3.out hb); clear H3; have H3 := u_; clear u_)); (try (have u_ := Aside0.mk (below_step HB.out hb); clear HB; have HB := u_; clear u_)); (try (have u_ := Aside0.mk (Kd.R_below HO.out hb); clear HO; have HO := u_; clear u_)); (try (have u_ := Aside0.mk (blk_below HA.out hb); clear HA; have HA := u_; clear u_)); (try (have u_ := Aside0.mk (blk_below HC.out hb); clear HC; have HC := u_; clear u_)); clear hb; generalize wd_.alloc (.cells #[.slice none 0 0] 22 (0, 0)) = wx_ at *; generalize wd_.heap.size = gb at *; have HC := Aside0.mk hnw; have HZB := Aside0.mk hz; clear hnw hz; refine hK.out _ _ ⟨(blk_cell H2.out 0).trans rfl, (blk_cell H2.out 1).trans rfl, (blk_cell H2.out 2).trans rfl⟩ (fun hHeld => ?_); clear hK K; refine norm_ (a' := ?_) ?_ ?_; rotate_left; (· (show Act.put _ (some 7) _ = _; simp only [Act.put, sz_, s0_, s1_, i64_w, i32_w]; rfl)); (try clear wd_); generalize wx_ = wd_ at *)
  all_goals first
    | (refine three_ (l := #[true, true, false, false, false, false, false]) (i := 2) (j := 3) (k := 4) (Ni := some 10) (Nj := some 6) (Nk := some 7) #[true, true, true, false, false, false, false] #[true, true, false, true, false, false, false] #[true, true, false, false, true, false, false] rfl rfl rfl rfl rfl rfl (three_of HT_.out (by kernel_rfl)) (by decide) (by decide) (by decide) (fun K hK => ?_) (fun K hK => ?_) (fun K hK => ?_))
    | (refine two_ (l := #[true, false, false, true, false, false, false]) (i := 1) (j := 4) (Ni := some 9) (Nj := some 7) #[true, true, false, true, false, false, false] #[true, false, false, true, true, false, false] rfl rfl rfl rfl (two_of HT_.out (by kernel_rfl)) (by decide) (by decide) (fun K hK => ?_) (fun K hK => ?_))
    | (refine two_ (l := #[true, false, false, false, true, false, false]) (i := 1) (j := 3) (Ni := some 9) (Nj := some 6) #[true, true, false, false, true, false, false] #[true, false, false, true, true, false, false] rfl rfl rfl rfl (two_of HT_.out (by kernel_rfl)) (by decide) (by decide) (fun K hK => ?_) (fun K hK => ?_))
  all_goals first
    | (refine goes_ (N := some 9) Try.func73 (by kernel_rfl) rfl #[.agg #[.int .i64 (W0 : Int), .int .i64 (H0 : Int), .slice A2 ships.length c2]] (by rfl) rfl rfl (by (try simp only [List.map_toArray, List.map_cons, List.map_nil]); first | done | rfl) ?_; refine (impl_Sea_cells.calls (W0 : Int) (H0 : Int) A2 c2 ships (N : Int) wd_ (Kd.C_below HSh.out HB.out) HC2.out HCel.out).mono ?_; rintro e wd_ ⟨rfl, hb⟩; refine ⟨_, rfl, ?_⟩; (try (have u_ := Aside0.mk (blk_below H2.out hb); clear H2; have H2 := u_; clear u_)); (try (have u_ := Aside0.mk (blk_below H3.out hb); clear H3; have H3 := u_; clear u_)); (try (have u_ := Aside0.mk (below_step HB.out hb); clear HB; have HB := u_; clear u_)); (try (have u_ := Aside0.mk (Kd.R_below HO.out hb); clear HO; have HO := u_; clear u_)); (try (have u_ := Aside0.mk (blk_below HA.out hb); clear HA; have HA := u_; clear u_)); (try (have u_ := Aside0.mk (blk_below HC.out hb); clear HC; have HC := u_; clear u_)); clear hb; refine hK.out _ _ ⟨(blk_cell H2.out 0).trans rfl, (blk_cell H2.out 1).trans rfl, (blk_cell H2.out 2).trans rfl⟩ (fun hHeld => ?_); clear hK K; refine norm_ (a' := ?_) ?_ ?_; rotate_left; (· (show Act.put _ (some 9) _ = _; simp only [Act.put, sz_, s0_, s1_, i64_w, i32_w]; rfl)))
    | (refine Kd.R_make_step (Kd.int .i64) _ 2 (by rfl) (N := 10) rfl 22 _ _ rfl (N : Int) rfl rfl Try.underlying22 (.int .i64 0) 8 info2 rfl (by decide) (by omega) 0 (ok := fun _ => True) (okp := fun _ => True) rfl (fun _ hk => hk) trivial HN0.out HN8.out (Below.refl _ _) (Nat.le_refl _) ?_; intro v10 wd_ ho hb hg_ hnew_; clear hg_ hnew_; rw [Int.toNat_natCast, ← sharesV_nil] at ho; obtain ⟨go, co, e10, hgo_, _, _⟩ := Kd.R_form ho (by rw [sharesV_len]; exact HNp.out); rw [sharesV_len] at e10; subst e10; (try have HNN := Aside0.mk (show ga ≠ go by have := blk_lt HA.out; omega)); have HZO := Aside0.mk (show w.heap.size ≤ go by have := below_size HB.out; omega); clear hgo_; have uO0_ := Aside0.mk (Kd.R_lower ho (below_size HB.out)); clear ho; (try (have u_ := Aside0.mk (blk_below H2.out hb); clear H2; have H2 := u_; clear u_)); (try (have u_ := Aside0.mk (blk_below H3.out hb); clear H3; have H3 := u_; clear u_)); (try (have u_ := Aside0.mk (below_step HB.out hb); clear HB; have HB := u_; clear u_)); (try (have u_ := Aside0.mk (Kd.R_below HO.out hb); clear HO; have HO := u_; clear u_)); (try (have u_ := Aside0.mk (blk_below HA.out hb); clear HA; have HA := u_; clear u_)); (try (have u_ := Aside0.mk (blk_below HC.out hb); clear HC; have HC := u_; clear u_)); clear hb; have HO := uO0_; clear uO0_; refine hK.out _ _ ⟨(blk_cell H2.out 0).trans rfl, (blk_cell H2.out 1).trans rfl, (blk_cell H2.out 2).trans rfl⟩ (fun hHeld => ?_); clear hK K; refine norm_ (a' := ?_) ?_ ?_; rotate_left; (· (show Act.put _ (some 10) _ = _; simp only [Act.put, sz_, s0_, s1_, i64_w, i32_w]; rfl)))
    | (refine value_ (N := some 6) (w1 := wd_.alloc (.cells #[.int .i64 0] 2 (0, 0))) (v := .pointer (some ⟨wd_.heap.size, 0, none⟩)) (by rfl) rfl ?_ ?_; (· (go_simp; (try rfl))); have hb := below_alloc (Below.refl wd_.heap.size wd_) (.cells #[.int .i64 0] 2 (0, 0)); have hnw := blk_new wd_ (.cells #[.int .i64 0] 2 (0, 0)); have hz := below_size HB.out; (try have HNN := Aside0.mk (show wd_.heap.size ≠ go by have := Kd.R_lt HO.out go rfl; omega)); (try (have u_ := Aside0.mk (blk_below H2.out hb); clear H2; have H2 := u_; clear u_)); (try (have u_ := Aside0.mk (blk_below H3.out hb); clear H3; have H3 := u_; clear u_)); (try (have u_ := Aside0.mk (below_step HB.out hb); clear HB; have HB := u_; clear u_)); (try (have u_ := Aside0.mk (Kd.R_below HO.out hb); clear HO; have HO := u_; clear u_)); (try (have u_ := Aside0.mk (blk_below HA.out hb); clear HA; have HA := u_; clear u_)); (try (have u_ := Aside0.mk (blk_below HC.out hb); clear HC; have HC := u_; clear u_)); clear hb; generalize wd_.alloc (.cells #[.int .i64 0] 2 (0, 0)) = wx_ at *; generalize wd_.heap.size = ga at *; have HA := Aside0.mk hnw; have HZA := Aside0.mk hz; clear hnw hz; refine hK.out _ _ ⟨(blk_cell H2.out 0).trans rfl, (blk_cell H2.out 1).trans rfl, (blk_cell H2.out 2).trans rfl⟩ (fun hHeld => ?_); clear hK K; refine norm_ (a' := ?_) ?_ ?_; rotate_left; (· (show Act.put _ (some 6) _ = _; simp only [Act.put, sz_, s0_, s1_, i64_w, i32_w]; rfl)); (try clear wd_); generalize wx_ = wd_ at *)
    | (refine value_ (N := some 7) (w1 := wd_.alloc (.cells #[.slice none 0 0] 22 (0, 0))) (v := .pointer (some ⟨wd_.heap.size, 0, none⟩)) (by rfl) rfl ?_ ?_; (· (go_simp; (try rfl))); have hb := below_alloc (Below.refl wd_.heap.size wd_) (.cells #[.slice none 0 0] 22 (0, 0)); have hnw := blk_new wd_ (.cells #[.slice none 0 0] 22 (0, 0)); have hz := below_size HB.out; (try (have u_ := Aside0.mk (blk_below H2.out hb); clear H2; have H2 := u_; clear u_)); (try (have u_ := Aside0.mk (blk_below H3.out hb); clear H3; have H3 := u_; clear u_)); (try (have u_ := Aside0.mk (below_step HB.out hb); clear HB; have HB := u_; clear u_)); (try (have u_ := Aside0.mk (Kd.R_below HO.out hb); clear HO; have HO := u_; clear u_)); (try (have u_ := Aside0.mk (blk_below HA.out hb); clear HA; have HA := u_; clear u_)); (try (have u_ := Aside0.mk (blk_below HC.out hb); clear HC; have HC := u_; clear u_)); clear hb; generalize wd_.alloc (.cells #[.slice none 0 0] 22 (0, 0)) = wx_ at *; generalize wd_.heap.size = gb at *; have HC := Aside0.mk hnw; have HZB := Aside0.mk hz; clear hnw hz; refine hK.out _ _ ⟨(blk_cell H2.out 0).trans rfl, (blk_cell H2.out 1).trans rfl, (blk_cell H2.out 2).trans rfl⟩ (fun hHeld => ?_); clear hK K; refine norm_ (a' := ?_) ?_ ?_; rotate_left; (· (show Act.put _ (some 7) _ = _; simp only [Act.put, sz_, s0_, s1_, i64_w, i32_w]; rfl)); (try clear wd_); generalize wx_ = wd_ at *)
  all_goals first
    | (refine two_ (l := #[true, true, true, false, false, false, false]) (i := 3) (j := 4) (Ni := some 6) (Nj := some 7) #[true, true, true, true, false, false, false] #[true, true, true, false, true, false, false] rfl rfl rfl rfl (two_of HT_.out (by kernel_rfl)) (by decide) (by decide) (fun K hK => ?_) (fun K hK => ?_))
    | (refine two_ (l := #[true, true, false, true, false, false, false]) (i := 2) (j := 4) (Ni := some 10) (Nj := some 7) #[true, true, true, true, false, false, false] #[true, true, false, true, true, false, false] rfl rfl rfl rfl (two_of HT_.out (by kernel_rfl)) (by decide) (by decide) (fun K hK => ?_) (fun K hK => ?_))
    | (refine two_ (l := #[true, true, false, false, true, false, false]) (i := 2) (j := 3) (Ni := some 10) (Nj := some 6) #[true, true, true, false, true, false, false] #[true, true, false, true, true, false, false] rfl rfl rfl rfl (two_of HT_.out (by kernel_rfl)) (by decide) (by decide) (fun K hK => ?_) (fun K hK => ?_))
    | (refine one_ (l := #[true, false, false, true, true, false, false]) (i := 1) (N := some 9) #[true, true, false, true, true, false, false] rfl rfl (one_of HT_.out (by kernel_rfl)) (by decide) (fun K hK => ?_))
  all_goals first
    | (refine goes_ (N := some 9) Try.func73 (by kernel_rfl) rfl #[.agg #[.int .i64 (W0 : Int), .int .i64 (H0 : Int), .slice A2 ships.length c2]] (by rfl) rfl rfl (by (try simp only [List.map_toArray, List.map_cons, List.map_nil]); first | done | rfl) ?_; refine (impl_Sea_cells.calls (W0 : Int) (H0 : Int) A2 c2 ships (N : Int) wd_ (Kd.C_below HSh.out HB.out) HC2.out HCel.out).mono ?_; rintro e wd_ ⟨rfl, hb⟩; refine ⟨_, rfl, ?_⟩; (try (have u_ := Aside0.mk (blk_below H2.out hb); clear H2; have H2 := u_; clear u_)); (try (have u_ := Aside0.mk (blk_below H3.out hb); clear H3; have H3 := u_; clear u_)); (try (have u_ := Aside0.mk (below_step HB.out hb); clear HB; have HB := u_; clear u_)); (try (have u_ := Aside0.mk (Kd.R_below HO.out hb); clear HO; have HO := u_; clear u_)); (try (have u_ := Aside0.mk (blk_below HA.out hb); clear HA; have HA := u_; clear u_)); (try (have u_ := Aside0.mk (blk_below HC.out hb); clear HC; have HC := u_; clear u_)); clear hb; refine hK.out _ _ ⟨(blk_cell H2.out 0).trans rfl, (blk_cell H2.out 1).trans rfl, (blk_cell H2.out 2).trans rfl⟩ (fun hHeld => ?_); clear hK K; refine norm_ (a' := ?_) ?_ ?_; rotate_left; (· (show Act.put _ (some 9) _ = _; simp only [Act.put, sz_, s0_, s1_, i64_w, i32_w]; rfl)))
    | (refine Kd.R_make_step (Kd.int .i64) _ 2 (by rfl) (N := 10) rfl 22 _ _ rfl (N : Int) rfl rfl Try.underlying22 (.int .i64 0) 8 info2 rfl (by decide) (by omega) 0 (ok := fun _ => True) (okp := fun _ => True) rfl (fun _ hk => hk) trivial HN0.out HN8.out (Below.refl _ _) (Nat.le_refl _) ?_; intro v10 wd_ ho hb hg_ hnew_; clear hg_ hnew_; rw [Int.toNat_natCast, ← sharesV_nil] at ho; obtain ⟨go, co, e10, hgo_, _, _⟩ := Kd.R_form ho (by rw [sharesV_len]; exact HNp.out); rw [sharesV_len] at e10; subst e10; (try have HNN := Aside0.mk (show ga ≠ go by have := blk_lt HA.out; omega)); have HZO := Aside0.mk (show w.heap.size ≤ go by have := below_size HB.out; omega); clear hgo_; have uO0_ := Aside0.mk (Kd.R_lower ho (below_size HB.out)); clear ho; (try (have u_ := Aside0.mk (blk_below H2.out hb); clear H2; have H2 := u_; clear u_)); (try (have u_ := Aside0.mk (blk_below H3.out hb); clear H3; have H3 := u_; clear u_)); (try (have u_ := Aside0.mk (below_step HB.out hb); clear HB; have HB := u_; clear u_)); (try (have u_ := Aside0.mk (Kd.R_below HO.out hb); clear HO; have HO := u_; clear u_)); (try (have u_ := Aside0.mk (blk_below HA.out hb); clear HA; have HA := u_; clear u_)); (try (have u_ := Aside0.mk (blk_below HC.out hb); clear HC; have HC := u_; clear u_)); clear hb; have HO := uO0_; clear uO0_; refine hK.out _ _ ⟨(blk_cell H2.out 0).trans rfl, (blk_cell H2.out 1).trans rfl, (blk_cell H2.out 2).trans rfl⟩ (fun hHeld => ?_); clear hK K; refine norm_ (a' := ?_) ?_ ?_; rotate_left; (· (show Act.put _ (some 10) _ = _; simp only [Act.put, sz_, s0_, s1_, i64_w, i32_w]; rfl)))
    | (refine value_ (N := some 6) (w1 := wd_.alloc (.cells #[.int .i64 0] 2 (0, 0))) (v := .pointer (some ⟨wd_.heap.size, 0, none⟩)) (by rfl) rfl ?_ ?_; (· (go_simp; (try rfl))); have hb := below_alloc (Below.refl wd_.heap.size wd_) (.cells #[.int .i64 0] 2 (0, 0)); have hnw := blk_new wd_ (.cells #[.int .i64 0] 2 (0, 0)); have hz := below_size HB.out; (try have HNN := Aside0.mk (show wd_.heap.size ≠ go by have := Kd.R_lt HO.out go rfl; omega)); (try (have u_ := Aside0.mk (blk_below H2.out hb); clear H2; have H2 := u_; clear u_)); (try (have u_ := Aside0.mk (blk_below H3.out hb); clear H3; have H3 := u_; clear u_)); (try (have u_ := Aside0.mk (below_step HB.out hb); clear HB; have HB := u_; clear u_)); (try (have u_ := Aside0.mk (Kd.R_below HO.out hb); clear HO; have HO := u_; clear u_)); (try (have u_ := Aside0.mk (blk_below HA.out hb); clear HA; have HA := u_; clear u_)); (try (have u_ := Aside0.mk (blk_below HC.out hb); clear HC; have HC := u_; clear u_)); clear hb; generalize wd_.alloc (.cells #[.int .i64 0] 2 (0, 0)) = wx_ at *; generalize wd_.heap.size = ga at *; have HA := Aside0.mk hnw; have HZA := Aside0.mk hz; clear hnw hz; refine hK.out _ _ ⟨(blk_cell H2.out 0).trans rfl, (blk_cell H2.out 1).trans rfl, (blk_cell H2.out 2).trans rfl⟩ (fun hHeld => ?_); clear hK K; refine norm_ (a' := ?_) ?_ ?_; rotate_left; (· (show Act.put _ (some 6) _ = _; simp only [Act.put, sz_, s0_, s1_, i64_w, i32_w]; rfl)); (try clear wd_); generalize wx_ = wd_ at *)
    | (refine value_ (N := some 7) (w1 := wd_.alloc (.cells #[.slice none 0 0] 22 (0, 0))) (v := .pointer (some ⟨wd_.heap.size, 0, none⟩)) (by rfl) rfl ?_ ?_; (· (go_simp; (try rfl))); have hb := below_alloc (Below.refl wd_.heap.size wd_) (.cells #[.slice none 0 0] 22 (0, 0)); have hnw := blk_new wd_ (.cells #[.slice none 0 0] 22 (0, 0)); have hz := below_size HB.out; (try (have u_ := Aside0.mk (blk_below H2.out hb); clear H2; have H2 := u_; clear u_)); (try (have u_ := Aside0.mk (blk_below H3.out hb); clear H3; have H3 := u_; clear u_)); (try (have u_ := Aside0.mk (below_step HB.out hb); clear HB; have HB := u_; clear u_)); (try (have u_ := Aside0.mk (Kd.R_below HO.out hb); clear HO; have HO := u_; clear u_)); (try (have u_ := Aside0.mk (blk_below HA.out hb); clear HA; have HA := u_; clear u_)); (try (have u_ := Aside0.mk (blk_below HC.out hb); clear HC; have HC := u_; clear u_)); clear hb; generalize wd_.alloc (.cells #[.slice none 0 0] 22 (0, 0)) = wx_ at *; generalize wd_.heap.size = gb at *; have HC := Aside0.mk hnw; have HZB := Aside0.mk hz; clear hnw hz; refine hK.out _ _ ⟨(blk_cell H2.out 0).trans rfl, (blk_cell H2.out 1).trans rfl, (blk_cell H2.out 2).trans rfl⟩ (fun hHeld => ?_); clear hK K; refine norm_ (a' := ?_) ?_ ?_; rotate_left; (· (show Act.put _ (some 7) _ = _; simp only [Act.put, sz_, s0_, s1_, i64_w, i32_w]; rfl)); (try clear wd_); generalize wx_ = wd_ at *)
  all_goals first
    | (refine one_ (l := #[true, true, true, true, false, false, false]) (i := 4) (N := some 7) #[true, true, true, true, true, false, false] rfl rfl (one_of HT_.out (by kernel_rfl)) (by decide) (fun K hK => ?_))
    | (refine one_ (l := #[true, true, true, false, true, false, false]) (i := 3) (N := some 6) #[true, true, true, true, true, false, false] rfl rfl (one_of HT_.out (by kernel_rfl)) (by decide) (fun K hK => ?_))
    | (refine two_ (l := #[true, true, false, true, true, false, false]) (i := 2) (j := 5) (Ni := some 10) (Nj := none) #[true, true, true, true, true, false, false] #[true, true, false, true, true, true, false] rfl rfl rfl rfl (two_of HT_.out (by kernel_rfl)) (by decide) (by decide) (fun K hK => ?_) (fun K hK => ?_))
  all_goals first
    | (refine Kd.R_make_step (Kd.int .i64) _ 2 (by rfl) (N := 10) rfl 22 _ _ rfl (N : Int) rfl rfl Try.underlying22 (.int .i64 0) 8 info2 rfl (by decide) (by omega) 0 (ok := fun _ => True) (okp := fun _ => True) rfl (fun _ hk => hk) trivial HN0.out HN8.out (Below.refl _ _) (Nat.le_refl _) ?_; intro v10 wd_ ho hb hg_ hnew_; clear hg_ hnew_; rw [Int.toNat_natCast, ← sharesV_nil] at ho; obtain ⟨go, co, e10, hgo_, _, _⟩ := Kd.R_form ho (by rw [sharesV_len]; exact HNp.out); rw [sharesV_len] at e10; subst e10; (try have HNN := Aside0.mk (show ga ≠ go by have := blk_lt HA.out; omega)); have HZO := Aside0.mk (show w.heap.size ≤ go by have := below_size HB.out; omega); clear hgo_; have uO0_ := Aside0.mk (Kd.R_lower ho (below_size HB.out)); clear ho; (try (have u_ := Aside0.mk (blk_below H2.out hb); clear H2; have H2 := u_; clear u_)); (try (have u_ := Aside0.mk (blk_below H3.out hb); clear H3; have H3 := u_; clear u_)); (try (have u_ := Aside0.mk (below_step HB.out hb); clear HB; have HB := u_; clear u_)); (try (have u_ := Aside0.mk (Kd.R_below HO.out hb); clear HO; have HO := u_; clear u_)); (try (have u_ := Aside0.mk (blk_below HA.out hb); clear HA; have HA := u_; clear u_)); (try (have u_ := Aside0.mk (blk_below HC.out hb); clear HC; have HC := u_; clear u_)); clear hb; have HO := uO0_; clear uO0_; refine hK.out _ _ ⟨(blk_cell H2.out 0).trans rfl, (blk_cell H2.out 1).trans rfl, (blk_cell H2.out 2).trans rfl⟩ (fun hHeld => ?_); clear hK K; refine norm_ (a' := ?_) ?_ ?_; rotate_left; (· (show Act.put _ (some 10) _ = _; simp only [Act.put, sz_, s0_, s1_, i64_w, i32_w]; rfl)))
    | (refine value_ (N := some 6) (w1 := wd_.alloc (.cells #[.int .i64 0] 2 (0, 0))) (v := .pointer (some ⟨wd_.heap.size, 0, none⟩)) (by rfl) rfl ?_ ?_; (· (go_simp; (try rfl))); have hb := below_alloc (Below.refl wd_.heap.size wd_) (.cells #[.int .i64 0] 2 (0, 0)); have hnw := blk_new wd_ (.cells #[.int .i64 0] 2 (0, 0)); have hz := below_size HB.out; (try have HNN := Aside0.mk (show wd_.heap.size ≠ go by have := Kd.R_lt HO.out go rfl; omega)); (try (have u_ := Aside0.mk (blk_below H2.out hb); clear H2; have H2 := u_; clear u_)); (try (have u_ := Aside0.mk (blk_below H3.out hb); clear H3; have H3 := u_; clear u_)); (try (have u_ := Aside0.mk (below_step HB.out hb); clear HB; have HB := u_; clear u_)); (try (have u_ := Aside0.mk (Kd.R_below HO.out hb); clear HO; have HO := u_; clear u_)); (try (have u_ := Aside0.mk (blk_below HA.out hb); clear HA; have HA := u_; clear u_)); (try (have u_ := Aside0.mk (blk_below HC.out hb); clear HC; have HC := u_; clear u_)); clear hb; generalize wd_.alloc (.cells #[.int .i64 0] 2 (0, 0)) = wx_ at *; generalize wd_.heap.size = ga at *; have HA := Aside0.mk hnw; have HZA := Aside0.mk hz; clear hnw hz; refine hK.out _ _ ⟨(blk_cell H2.out 0).trans rfl, (blk_cell H2.out 1).trans rfl, (blk_cell H2.out 2).trans rfl⟩ (fun hHeld => ?_); clear hK K; refine norm_ (a' := ?_) ?_ ?_; rotate_left; (· (show Act.put _ (some 6) _ = _; simp only [Act.put, sz_, s0_, s1_, i64_w, i32_w]; rfl)); (try clear wd_); generalize wx_ = wd_ at *)
    | (refine value_ (N := some 7) (w1 := wd_.alloc (.cells #[.slice none 0 0] 22 (0, 0))) (v := .pointer (some ⟨wd_.heap.size, 0, none⟩)) (by rfl) rfl ?_ ?_; (· (go_simp; (try rfl))); have hb := below_alloc (Below.refl wd_.heap.size wd_) (.cells #[.slice none 0 0] 22 (0, 0)); have hnw := blk_new wd_ (.cells #[.slice none 0 0] 22 (0, 0)); have hz := below_size HB.out; (try (have u_ := Aside0.mk (blk_below H2.out hb); clear H2; have H2 := u_; clear u_)); (try (have u_ := Aside0.mk (blk_below H3.out hb); clear H3; have H3 := u_; clear u_)); (try (have u_ := Aside0.mk (below_step HB.out hb); clear HB; have HB := u_; clear u_)); (try (have u_ := Aside0.mk (Kd.R_below HO.out hb); clear HO; have HO := u_; clear u_)); (try (have u_ := Aside0.mk (blk_below HA.out hb); clear HA; have HA := u_; clear u_)); (try (have u_ := Aside0.mk (blk_below HC.out hb); clear HC; have HC := u_; clear u_)); clear hb; generalize wd_.alloc (.cells #[.slice none 0 0] 22 (0, 0)) = wx_ at *; generalize wd_.heap.size = gb at *; have HC := Aside0.mk hnw; have HZB := Aside0.mk hz; clear hnw hz; refine hK.out _ _ ⟨(blk_cell H2.out 0).trans rfl, (blk_cell H2.out 1).trans rfl, (blk_cell H2.out 2).trans rfl⟩ (fun hHeld => ?_); clear hK K; refine norm_ (a' := ?_) ?_ ?_; rotate_left; (· (show Act.put _ (some 7) _ = _; simp only [Act.put, sz_, s0_, s1_, i64_w, i32_w]; rfl)); (try clear wd_); generalize wx_ = wd_ at *)
    | (have hfA := blk_frozen HA.out 0; have hcA := (blk_cell HA.out 0).trans rfl; refine skip_ (w1 := wd_.setCell ⟨ga, 0, none⟩ (.int .i64 0)) (by rfl) rfl ?_ ?_; (· (go_simp; (try rfl))); (try (have u_ := Aside0.mk (blk_far (p := ⟨ga, 0, none⟩) H2.out (blk_types_ne H2.out HA.out (by decide)) (.int .i64 0)); clear H2; have H2 := u_; clear u_)); (try (have u_ := Aside0.mk (blk_far (p := ⟨ga, 0, none⟩) H3.out (blk_types_ne H3.out HA.out (by decide)) (.int .i64 0)); clear H3; have H3 := u_; clear u_)); have uB_ := Aside0.mk (below_set HB.out HZA.out : Below w.heap.size w (wd_.setCell ⟨ga, 0, none⟩ (.int .i64 0))); clear HB; have HB := uB_; clear uB_; (try (have u_ := Aside0.mk (blk_far (p := ⟨ga, 0, none⟩) HC.out (blk_types_ne HC.out HA.out (by decide)) (.int .i64 0)); clear HC; have HC := u_; clear u_)); (try (have u_ := Aside0.mk (Kd.R_mono (ok' := fun _ => True) (Kd.R_far (p := ⟨ga, 0, none⟩) (Kd.R_far1 HO.out rfl (g := ga) (fun e => HNN.out (by injection e))) (fun k hk => hk.2) (.int .i64 0)) (fun _ _ => trivial)); clear HO; have HO := u_; clear u_)); (try (have u_ := Aside0.mk (blk_put HA.out 0 (.int .i64 0) rfl); clear HA; have HA := u_; clear u_)); clear hfA hcA; generalize wd_.setCell ⟨ga, 0, none⟩ (.int .i64 0) = wd_ at *; refine hK.out _ _ ⟨(blk_cell H2.out 0).trans rfl, (blk_cell H2.out 1).trans rfl, (blk_cell H2.out 2).trans rfl⟩ (fun hHeld => ?_); clear hK K)
  all_goals first
    | (refine one_ (l := #[true, true, true, true, true, false, false]) (i := 5) (N := none) #[true, true, true, true, true, true, false] rfl rfl (one_of HT_.out (by kernel_rfl)) (by decide) (fun K hK => ?_))
    | (refine one_ (l := #[true, true, false, true, true, true, false]) (i := 2) (N := some 10) #[true, true, true, true, true, true, false] rfl rfl (one_of HT_.out (by kernel_rfl)) (by decide) (fun K hK => ?_))
  all_goals first
    | (refine Kd.R_make_step (Kd.int .i64) _ 2 (by rfl) (N := 10) rfl 22 _ _ rfl (N : Int) rfl rfl Try.underlying22 (.int .i64 0) 8 info2 rfl (by decide) (by omega) 0 (ok := fun _ => True) (okp := fun _ => True) rfl (fun _ hk => hk) trivial HN0.out HN8.out (Below.refl _ _) (Nat.le_refl _) ?_; intro v10 wd_ ho hb hg_ hnew_; clear hg_ hnew_; rw [Int.toNat_natCast, ← sharesV_nil] at ho; obtain ⟨go, co, e10, hgo_, _, _⟩ := Kd.R_form ho (by rw [sharesV_len]; exact HNp.out); rw [sharesV_len] at e10; subst e10; (try have HNN := Aside0.mk (show ga ≠ go by have := blk_lt HA.out; omega)); have HZO := Aside0.mk (show w.heap.size ≤ go by have := below_size HB.out; omega); clear hgo_; have uO0_ := Aside0.mk (Kd.R_lower ho (below_size HB.out)); clear ho; (try (have u_ := Aside0.mk (blk_below H2.out hb); clear H2; have H2 := u_; clear u_)); (try (have u_ := Aside0.mk (blk_below H3.out hb); clear H3; have H3 := u_; clear u_)); (try (have u_ := Aside0.mk (below_step HB.out hb); clear HB; have HB := u_; clear u_)); (try (have u_ := Aside0.mk (Kd.R_below HO.out hb); clear HO; have HO := u_; clear u_)); (try (have u_ := Aside0.mk (blk_below HA.out hb); clear HA; have HA := u_; clear u_)); (try (have u_ := Aside0.mk (blk_below HC.out hb); clear HC; have HC := u_; clear u_)); clear hb; have HO := uO0_; clear uO0_; refine hK.out _ _ ⟨(blk_cell H2.out 0).trans rfl, (blk_cell H2.out 1).trans rfl, (blk_cell H2.out 2).trans rfl⟩ (fun hHeld => ?_); clear hK K; refine norm_ (a' := ?_) ?_ ?_; rotate_left; (· (show Act.put _ (some 10) _ = _; simp only [Act.put, sz_, s0_, s1_, i64_w, i32_w]; rfl)))
    | (have hfA := blk_frozen HA.out 0; have hcA := (blk_cell HA.out 0).trans rfl; refine skip_ (w1 := wd_.setCell ⟨ga, 0, none⟩ (.int .i64 0)) (by rfl) rfl ?_ ?_; (· (go_simp; (try rfl))); (try (have u_ := Aside0.mk (blk_far (p := ⟨ga, 0, none⟩) H2.out (blk_types_ne H2.out HA.out (by decide)) (.int .i64 0)); clear H2; have H2 := u_; clear u_)); (try (have u_ := Aside0.mk (blk_far (p := ⟨ga, 0, none⟩) H3.out (blk_types_ne H3.out HA.out (by decide)) (.int .i64 0)); clear H3; have H3 := u_; clear u_)); have uB_ := Aside0.mk (below_set HB.out HZA.out : Below w.heap.size w (wd_.setCell ⟨ga, 0, none⟩ (.int .i64 0))); clear HB; have HB := uB_; clear uB_; (try (have u_ := Aside0.mk (blk_far (p := ⟨ga, 0, none⟩) HC.out (blk_types_ne HC.out HA.out (by decide)) (.int .i64 0)); clear HC; have HC := u_; clear u_)); (try (have u_ := Aside0.mk (Kd.R_mono (ok' := fun _ => True) (Kd.R_far (p := ⟨ga, 0, none⟩) (Kd.R_far1 HO.out rfl (g := ga) (fun e => HNN.out (by injection e))) (fun k hk => hk.2) (.int .i64 0)) (fun _ _ => trivial)); clear HO; have HO := u_; clear u_)); (try (have u_ := Aside0.mk (blk_put HA.out 0 (.int .i64 0) rfl); clear HA; have HA := u_; clear u_)); clear hfA hcA; generalize wd_.setCell ⟨ga, 0, none⟩ (.int .i64 0) = wd_ at *; refine hK.out _ _ ⟨(blk_cell H2.out 0).trans rfl, (blk_cell H2.out 1).trans rfl, (blk_cell H2.out 2).trans rfl⟩ (fun hHeld => ?_); clear hK K)
  all_goals generalize wd_ = wz_ at H2 H3 HB HO HA HC hHeld ⊢
  all_goals
    refine last_ (i := 6) (N := none) (flg_ 7 127) rfl rfl (one_of HT_.out (by kernel_rfl)) (by decide) (fun K hK => ?_)
    have hfC := blk_frozen HC.out 0
    have hcC := (blk_cell HC.out 0).trans rfl
    refine skip_ (w1 := World.setCell wz_ ⟨gb, 0, none⟩ (.slice (some ⟨go, 0, none⟩) N co)) (by rfl) rfl ?_ ?_
    · go_simp
      (try rfl)
    refine hK.out _ _ ?_
    clear hK K hfC hcC hHeld
    have HNE := Aside0.mk (show ShNe w g3 ga gb go from ⟨blk_types_ne H3.out HA.out (by decide), (blk_types_ne HC.out HA.out (by decide)), HNN.out, row_ne H3.out HO.out (by decide), row_ne HC.out HO.out (by decide), HZA.out, HZO.out⟩)
    have uS_ := Aside0.mk (share_start H3.out HC.out HA.out HO.out HB.out HNE.out HZB.out)
    have u2_ := Aside0.mk (blk_far (p := ⟨gb, 0, none⟩) H2.out (blk_types_ne H2.out HC.out (by decide)) (.slice (some ⟨go, 0, none⟩) N co))
    clear H2 H3 HA HC HO HB
    have H2 := u2_
    have HS := uS_
    clear u2_ uS_
    generalize World.setCell wz_ ⟨gb, 0, none⟩ (.slice (some ⟨go, 0, none⟩) N co) = w7 at H2 HS ⊢
    refine done_ (done_of HT_.out (by kernel_rfl)) ?_
    have hs0 := (blk_cell H2.out 0).trans rfl
    have hs1 := (blk_cell H2.out 1).trans rfl
    have hs2 := (blk_cell H2.out 2).trans rfl
    go_wp2_with (first | (go_at_call 65; refine (share_each W0 H0 ships A2 c2 HW.out HH.out HSz.out HSI.out HC2.out HTl.out HTs.out HNE.out HT0.out HTc.out HSh.out HNN0.out HS.out).mono ?_; rintro e w8 ⟨rfl, hE⟩; rw [HDn.out] at hE; have HE := Aside0.mk hE; clear hE H2 HS hs0 hs1 hs2; have ha_ := (blk_cell HE.out.ba 0).trans rfl; have hb_ := (blk_cell HE.out.bb 0).trans rfl))
    go_quiet (fail)
    (try go_wp2_with fail)
    go_ret2
    have hbq := pw_below_drewN (Below.refl w8.heap.size w8) nq
    exact ⟨_, rfl, Kd.R_mono (Kd.R_below HE.out.row hbq) (fun _ _ => trivial), below_step HE.out.below hbq⟩
-- With no bound the reference's fleets are all that agree: the value that the contracts name. (for 64)
-- goV_all fleetsOf
def goFleets (w h : Int) (l : List Int) (T : List S93) (most : Int) : List (List Int) := goV w.toNat h.toNat l T l.length [] 0 most
theorem goFleets_all {w h : Int} {l : List Int} (hs : seaV w h l = true) (T : List S93) : goFleets w h l T (-1) = (fleetsOf w h l).filter fun fl => agFrom fl 0 T := by
  obtain ⟨⟨W0, rfl, hw1, hw5⟩, ⟨H0, rfl, hh1, hh5⟩, _, _⟩ := seaV_nat hs
  unfold goFleets fleetsOf
  simp only [Int.toNat_natCast]
  exact goV_all ⟨hw1, hw5⟩ ⟨hh1, hh5⟩ l (sea_ships hs) T (-1) (by omega) l.length [] 0 (by simp) (used_zero [])
-- What the reference's list of fleets needs of the functions that it calls. (for 64)
-- specPlacements_ev specAgrees_ev goV
theorem go_env {W0 H0 : Nat} (hW : 1 ≤ W0 ∧ W0 ≤ 5) (hH : 1 ≤ H0 ∧ H0 ≤ 5) (ships : List Int) (hs3 : ships.length ≤ 3) (hin : ∀ j : Nat, j < ships.length → inW (rd ships (j : Int)) 1 5 = true) (T : List S93) (hT : T.length ≤ 1048576) (hc : SeaCells (T.map fun x => x.f0)) :
    (∀ j : Nat, j < ships.length → ∃ kp, spec_l09Placements.f kp (W0 : Int) (H0 : Int) ships (rd ships (j : Int)) = some (placeOf W0 H0 ships j)) ∧ ∀ list : List Int, list.length = ships.length → InPl W0 H0 ships list → ∃ ka, spec_l09Agrees.f ka list T = some (agFrom list 0 T) := by
  refine ⟨fun j hj => ?_, fun list hl hi => ?_⟩
  · obtain ⟨n, hn, h1, h5⟩ := inW_five (hin j hj)
    obtain ⟨K, hK⟩ := specPlacements_ev hW hH.2 ⟨h1, h5⟩ ships
    exact ⟨K, by rw [hn]; unfold placeOf; rw [hn, Int.toNat_natCast]; exact hK K (Nat.le_refl _)⟩
  · have hN : NumFleet list := fun x hx => by
      obtain ⟨j, hj, rfl⟩ := List.mem_iff_getElem.1 hx
      obtain ⟨n, hn, h1, h5⟩ := inW_five (hin j (by omega))
      have := hi j hj
      unfold placeOf at this
      rw [hn, Int.toNat_natCast] at this
      obtain ⟨m, e, _, h⟩ := placesOf_num hW.1 hW.2 hH.2 h1 _ this
      exact ⟨m, e, h⟩
    obtain ⟨K, hK⟩ := specAgrees_ev hN (by omega) T hT hc
    exact ⟨K, hK K (Nat.le_refl _)⟩
/-! ### spec_l09Shares: function 91 -/
-- EXTERNAL: by hand
-- spec_l09Go spec_l09Set spec_l09Cells
-- goFleets go_env seaV_nat sea_ships sharesV shareSome shotsIn agreeing goFleets_all fleets_num specSet_ev specCells_ev chosen_step
def spec_l09Shares.f (a0_0 a0_1 : Int) (l0_2 : List Int) (l1 : List S93) : Option (List Int × Int) := if seaV a0_0 a0_1 l0_2 = true ∧ shotsIn l1 = true ∧ l1.length ≤ 1048576 then some (sharesV (a0_0.toNat * a0_1.toNat) (agreeing (fleetsOf a0_0 a0_1 l0_2) l1), ((agreeing (fleetsOf a0_0 a0_1 l0_2) l1).length : Int)) else none
theorem fnil_ (w : World) (ok : Nat → Prop) (A : Option Addr) : Kd.F (Kd.int .i64) w ok A 0 [] := fun _ _ => ⟨rfl, Nat.zero_le _, fun hp => absurd hp (by simp)⟩
theorem row_blk_ {W : World} {base go n co : Nat} {ok : Nat → Prop} {xs : List Int} (ho : Kd.R (Kd.int .i64) 2 W base ok (.slice (some ⟨go, 0, none⟩) n co) xs) (h : 0 < xs.length) : ∃ cells, W.heap[go]? = some (.cells cells 2 (0, 0)) := by
  obtain ⟨g, cap, e2, _, _, cells, hc⟩ := Kd.R_form ho h
  injection e2 with e3
  injection e3 with e3
  injection e3 with e3
  subst e3
  exact ⟨cells, hc⟩
theorem wrap_nat2_ {N : Nat} (h : N ≤ 25) : wrap64 (N : Int) = (N : Int) := by unfold wrap64; omega
def spec_l09Shares.T1 : Bool × List (List Nat × List Nat) := (true, [([], []), ([], []), ([], []), ([0, 1, 2], [0, 1, 2]), ([], []), ([4], [4]), ([], []), ([6], [6]), ([5, 7], [5, 7]), ([8, 8], [8]), ([3, 3, 0, 1, 2, 3], [3]), ([9, 10, 0, 1, 2, 3, 4, 5, 6, 7, 8, 9, 10], [9])])
def spec_l09Shares.B1 : List Nat := [0, 0, 0, 7, 0, 16, 0, 64, 240, 496, 15, 2047]
theorem spec_l09Shares.tab1 : rtab .any (opsOf Try.f91 1) = spec_l09Shares.T1 := by kernel_rfl
theorem spec_l09Shares.bits1 : waitsOk spec_l09Shares.T1.2 spec_l09Shares.B1 = true := by kernel_rfl
set_option maxHeartbeats 16000000 in
set_option maxRecDepth 100000 in
theorem spec_l09Shares.calls (a0_0 a0_1 : Int) (A2 : Option Addr) (c2 : Nat) (ships : List Int) (A3 : Option Addr) (c3 : Nat) (T : List S93) (r1 : List Int) (r2 : Int) (w : World) (hr0_2 : Kd.C (Kd.int .i64) w A2 ships.length ships) (hc0_2 : ships.length ≤ c2) (hr1 : Kd.C k93 w A3 T.length T) (hc1 : T.length ≤ c3) (h : spec_l09Shares.f a0_0 a0_1 ships T = some (r1, r2)) :
    Calls Try.prog 91 #[.agg #[.int .i64 a0_0, .int .i64 a0_1, .slice A2 ships.length c2], .slice A3 T.length c3] w fun e w' => ∃ v0_ : Value, e = .returned (.tuple #[v0_, .int .i64 r2]) ∧ Kd.R (Kd.int .i64) 2 w' w.heap.size (fun _ => True) v0_ r1 ∧ Below w.heap.size w w' := by
  unfold spec_l09Shares.f at h
  split at h
  case isFalse => cases h
  rename_i hs
  simp only [Option.some.injEq, Prod.mk.injEq] at h
  obtain ⟨hr1_, hr2_⟩ := h
  obtain ⟨hs, hsi, hTl⟩ := hs
  have hall := goFleets_all hs T
  obtain ⟨⟨W0, rfl, hw1, hw5⟩, ⟨H0, rfl, hh1, hh5⟩, hs1, hs3⟩ := seaV_nat hs
  have HW := Aside0.mk (And.intro hw1 hw5)
  have HH := Aside0.mk (And.intro hh1 hh5)
  have HSz := Aside0.mk (And.intro hs1 hs3)
  have HTs := Aside0.mk (shotsIn_sea hsi)
  have HT0 := Aside0.mk hr1
  have HTc := Aside0.mk hc1
  have HSh := Aside0.mk hr0_2
  have HC2 := Aside0.mk hc0_2
  have HEnv := Aside0.mk (go_env ⟨hw1, hw5⟩ ⟨hh1, hh5⟩ ships hs3 (sea_ships hs) T hTl (shotsIn_sea hsi))
  have HLen := Aside0.mk (show ([] : List Int).length + ships.length = ships.length by simp)
  have HNum := Aside0.mk (fleets_num ⟨hw1, hw5⟩ ⟨hh1, hh5⟩ hs3 (sea_ships hs) T)
  have hgl := goV_len W0 H0 ships T (fun j => placeOf_len hw5 hh5 ships j) ships.length [] 0 (-1)
  unfold goFleets fleetsOf at hall
  unfold fleetsOf at hr1_ hr2_
  simp only [Int.toNat_natCast] at hr1_ hr2_ hall
  replace hall : goV W0 H0 ships T ships.length [] 0 (-1) = agreeing (fleetsFrom W0 H0 ships ships.length []) T := hall
  obtain ⟨fls, hfls⟩ : ∃ fls, agreeing (fleetsFrom W0 H0 ships ships.length []) T = fls := ⟨_, rfl⟩
  rw [hfls] at hr1_ hr2_ hall HNum
  have HFlen := Aside0.mk (show fls.length ≤ 1000000 by rw [← hall]; exact Nat.le_trans hgl (Nat.le_trans (Nat.pow_le_pow_right (by omega) hs3) (by simp)))
  have HFl := Aside0.mk hall
  obtain ⟨N, hN⟩ : ∃ N, W0 * H0 = N := ⟨_, rfl⟩
  rw [hN] at hr1_ HNum
  have hN25 : N ≤ 25 := by rw [← hN]; exact cells_le hw5 hh5
  have HN25 := Aside0.mk hN25
  have HNp := Aside0.mk (show 0 < N by rw [← hN]; exact Nat.mul_pos (by omega) (by omega))
  have hwn : wrap64 ((W0 : Int) * (H0 : Int)) = (N : Int) := by rw [show (W0 : Int) * (H0 : Int) = (N : Int) by rw [← hN, Int.natCast_mul], wrap_nat2_ hN25]
  have HN0 := Aside0.mk (show (0 : Int) ≤ wrap64 ((W0 : Int) * (H0 : Int)) by rw [hwn]; exact Int.natCast_nonneg N)
  have HN8 := Aside0.mk (show (wrap64 ((W0 : Int) * (H0 : Int))).toNat * 8 ≤ 281474976710656 by rw [hwn, Int.toNat_natCast]; clear hwn; omega)
  have HNe := Aside0.mk (show (wrap64 ((W0 : Int) * (H0 : Int))).toNat = N by rw [hwn, Int.toNat_natCast])
  subst hr1_ hr2_
  have hu28 := Try.underlying28
  clear hr0_2 hc0_2 hr1 hc1 hs hsi hTl hw1 hw5 hh1 hh5 hs1 hs3 hN hN25 hwn hgl hall hfls
  go_enter Try.func91, Try.ntmps91
  go_wp2_with (first | ((with_reducible refine gate_dst (N := 2) rfl ?_); refine box_event ?hg (N := 2) ?hd (cs := #[.int .i64 (W0 : Int), .int .i64 (H0 : Int), .slice A2 ships.length c2]) (t := 28) ?hr ?_; (case hd => rfl); (case hg => rfl); (case hr => first | (go_simp; done) | (go_simp; rfl)); intro g2 hg2 w1 hbox hb; have H2 := Aside0.mk hbox; have HB := Aside0.mk hb; clear hbox hb hg2))
  have u2_ := Aside0.mk (blk_drew H2.out)
  have uB_ := Aside0.mk (below_drew1 HB.out)
  clear H2 HB
  have H2 := u2_
  have HB := uB_
  clear u2_ uB_
  refine start_ (n := 12) (S := fun w' => w'.cell? ⟨g2, 0, none⟩ = some (.int .i64 (W0 : Int)) ∧ w'.cell? ⟨g2, 1, none⟩ = some (.int .i64 (H0 : Int)) ∧ w'.cell? ⟨g2, 2, none⟩ = some (.slice A2 ships.length c2)) (ds := []) #[false, false, false, false, false, false, false, false, false, false, false, false] (by kernel_rfl) rfl rfl ⟨(blk_cell H2.out 0).trans rfl, (blk_cell H2.out 1).trans rfl, (blk_cell H2.out 2).trans rfl⟩ (fun hHeld => ?_)
  refine with_tabW spec_l09Shares.tab1 spec_l09Shares.bits1 (fun HT_ HW_ => ?_)
  generalize hq_ : w1.drew = wd_ at H2 HB hHeld ⊢
  clear hq_
  refine take_ (i := 0) (N := some 11) (v := ?_) (a' := ?_) (flg_ 12 1) rfl rfl (take_ofW HT_.out HW_.out (by kernel_rfl)) (fun _ _ _ h => h) (Or.inl ⟨by rfl, ?_⟩) hHeld ?_ ?_
  rotate_left
  · rintro w' ⟨s0_, s1_, s2_⟩
    go_simp
    with_reducible rfl
  rotate_left
  · simp only [Act.put, sz_, s0_, s1_, i64_w, i32_w]
    rfl
  refine pure_ (i := 2) (N := some 13) (v := ?_) (a' := ?_) (flg_ 12 5) rfl rfl (any_of HT_.out (by kernel_rfl)) (fun _ _ _ h => h) (Or.inl ⟨by rfl, ?_⟩) ?_ ?_
  rotate_left
  · intro w'
    go_simp
    with_reducible rfl
  rotate_left
  · simp only [Act.put, sz_, s0_, s1_, i64_w, i32_w]
    rfl
  refine pure_ (i := 4) (N := some 15) (v := ?_) (a' := ?_) (flg_ 12 21) rfl rfl (any_of HT_.out (by kernel_rfl)) (fun _ _ _ h => h) (Or.inl ⟨by rfl, ?_⟩) ?_ ?_
  rotate_left
  · intro w'
    go_simp
    with_reducible rfl
  rotate_left
  · simp only [Act.put, sz_, s0_, s1_, i64_w, i32_w]
    rfl
  refine take_ (i := 5) (N := some 16) (v := ?_) (a' := ?_) (flg_ 12 53) rfl rfl (take_ofW HT_.out HW_.out (by kernel_rfl)) (fun _ _ _ h => h) (Or.inl ⟨by rfl, ?_⟩) hHeld ?_ ?_
  rotate_left
  · rintro w' ⟨s0_, s1_, s2_⟩
    go_simp
    with_reducible rfl
  rotate_left
  · simp only [Act.put, sz_, s0_, s1_, i64_w, i32_w]
    rfl
  refine pure_ (i := 6) (N := some 17) (v := ?_) (a' := ?_) (flg_ 12 117) rfl rfl (any_of HT_.out (by kernel_rfl)) (fun _ _ _ h => h) (Or.inl ⟨by rfl, ?_⟩) ?_ ?_
  rotate_left
  · intro w'
    go_simp
    with_reducible rfl
  rotate_left
  · simp only [Act.put, sz_, s0_, s1_, i64_w, i32_w]
    rfl
  refine take_ (i := 7) (N := some 18) (v := ?_) (a' := ?_) (flg_ 12 245) rfl rfl (take_ofW HT_.out HW_.out (by kernel_rfl)) (fun _ _ _ h => h) (Or.inl ⟨by rfl, ?_⟩) hHeld ?_ ?_
  rotate_left
  · rintro w' ⟨s0_, s1_, s2_⟩
    go_simp
    with_reducible rfl
  rotate_left
  · simp only [Act.put, sz_, s0_, s1_, i64_w, i32_w]
    rfl
  refine pure_ (i := 8) (N := some 19) (v := ?_) (a' := ?_) (flg_ 12 501) rfl rfl (any_of HT_.out (by kernel_rfl)) (fun _ _ _ h => h) (Or.inl ⟨by rfl, ?_⟩) ?_ ?_
  rotate_left
  · intro w'
    go_simp
    with_reducible rfl
  rotate_left
  · simp only [Act.put, sz_, s0_, s1_, i64_w, i32_w]
    rfl
  refine two_ (i := 1) (j := 9) (Ni := some 12) (Nj := some 20) (flg_ 12 503) (flg_ 12 1013) rfl rfl rfl rfl (two_of HT_.out (by kernel_rfl)) (by decide) (by decide) (fun K hK => ?_) (fun K hK => ?_)
  focus
    refine Kd.R_lit_step (Kd.int .i64) _ 2 ?hg (N := 12) ?hd (xs := ([] : List Int)) (inner := []) (ok := fun _ => True) (okp := fun _ => True) ?hr ?hp (fun _ hk => hk) trivial (Below.refl _ _) (Nat.le_refl _) (by simp) ?_; (case hd => rfl); (case hg => rfl); (case hr => first | (go_simp; done) | (go_simp; rfl)); (case hp => exact Reps.none _ _)
    intro v12 wq1_ ho hb hg_ hnew_
    clear hg_ hnew_
    obtain ⟨A12, c12, e12⟩ := Kd.R_slice ho
    subst e12
    clear ho
    have u2_ := Aside0.mk (blk_below H2.out hb)
    have uB_ := Aside0.mk (below_step HB.out hb)
    clear hb H2 HB
    have H2 := u2_
    have HB := uB_
    clear u2_ uB_
    refine hK.out _ _ ⟨(blk_cell H2.out 0).trans rfl, (blk_cell H2.out 1).trans rfl, (blk_cell H2.out 2).trans rfl⟩ (fun hHeld => ?_)
    clear hK K
    refine norm_ (a' := ?_) ?_ ?_
    rotate_left
    · show Act.put _ (some 12) _ = _
      simp only [Act.put, sz_, s0_, s1_, i64_w, i32_w]
      rfl
    refine two_ (i := 3) (j := 9) (Ni := some 14) (Nj := some 20) (flg_ 12 511) (flg_ 12 1015) rfl rfl rfl rfl (two_of HT_.out (by kernel_rfl)) (by decide) (by decide) (fun K hK => ?_) (fun K hK => ?_)
    focus
      refine goes_ Try.func64 (by kernel_rfl) rfl #[.agg #[.int .i64 (W0 : Int), .int .i64 (H0 : Int), .slice A2 ships.length c2], .slice A12 ([] : List Int).length c12, .int .i64 0, .slice A3 T.length c3, .int .i64 (-1)] (by rfl) rfl rfl (by (try simp only [List.map_toArray, List.map_cons, List.map_nil]); first | done | rfl) ?_
      refine (spec_l09Go.does W0 H0 ships A2 c2 A3 c3 T HW.out.2 HH.out.2 HSz.out.2 HC2.out HTc.out HEnv.out.1 HEnv.out.2 ships.length [] 0 (-1) A12 c12 (fun _ => False) wq1_ HLen.out InPl.nil (by omega) (fnil_ _ _ _) (Nat.zero_le _) (Kd.C_below HT0.out HB.out) (Kd.C_below HSh.out HB.out)).mono ?_
      rintro e wq2_ ⟨v14, rfl, ho, hb⟩
      obtain ⟨A14, c14, e14⟩ := Kd.N_slice ho
      subst e14
      rw [HFl.out] at ho ⊢
      refine ⟨_, rfl, ?_⟩
      have uL0_ := Aside0.mk (Kd.N_mono (ok' := fun _ => True) (Kd.N_lower ho (below_size HB.out)) (fun _ _ => trivial))
      clear ho
      have u2_ := Aside0.mk (blk_below H2.out hb)
      have uB_ := Aside0.mk (below_step HB.out hb)
      clear hb H2 HB
      have H2 := u2_
      have HB := uB_
      clear u2_ uB_
      have HL := uL0_
      clear uL0_
      refine hK.out _ _ ⟨(blk_cell H2.out 0).trans rfl, (blk_cell H2.out 1).trans rfl, (blk_cell H2.out 2).trans rfl⟩ (fun hHeld => ?_)
      clear hK K
      refine norm_ (a' := ?_) ?_ ?_
      rotate_left
      · show Act.put _ (some 14) _ = _
        simp only [Act.put, sz_, s0_, s1_, i64_w, i32_w]
        rfl
      refine pure_ (i := 10) (N := some 6) (v := ?_) (a' := ?_) (flg_ 12 1535) rfl rfl (any_of HT_.out (by kernel_rfl)) (fun _ _ _ h => h) (Or.inl ⟨by rfl, ?_⟩) ?_ ?_
      rotate_left
      · intro w'
        go_simp
        with_reducible rfl
      rotate_left
      · simp only [Act.put, sz_, s0_, s1_, i64_w, i32_w]
        rfl
      refine one_ (i := 9) (N := some 20) (flg_ 12 2047) rfl rfl (one_of HT_.out (by kernel_rfl)) (by decide) (fun K hK => ?_)
      refine Kd.R_make_step (Kd.int .i64) _ 2 (by rfl) (N := 20) rfl 22 _ _ rfl (wrap64 ((W0 : Int) * (H0 : Int))) rfl rfl Try.underlying22 (.int .i64 0) 8 info2 rfl (by decide) (by omega) 0 (ok := fun _ => True) (okp := fun _ => True) rfl (fun _ hk => hk) trivial HN0.out HN8.out (Below.refl _ _) (Nat.le_refl _) ?_
      intro v20 wq3_ ho hb hg_ hnew_
      clear hg_ hnew_
      rw [HNe.out, ← sharesV_nil] at ho
      obtain ⟨go, co, e20, hgo_, _, _⟩ := Kd.R_form ho (by rw [sharesV_len]; exact HNp.out)
      rw [sharesV_len] at e20
      subst e20
      have HZO := Aside0.mk (show w.heap.size ≤ go by have := below_size HB.out; omega)
      have uO0_ := Aside0.mk (Kd.R_mono (ok' := fun k => k = go) (Kd.R_tight rfl (Kd.R_lower ho (below_size HB.out))) (fun k hk => by injection hk))
      clear ho
      have uL0_ := Aside0.mk (Kd.N_mono (ok' := fun k => k ≠ go) (Kd.N_bound HL.out) (fun k hk e_ => by have := hk.2; omega))
      clear HL
      have HL := uL0_
      clear uL0_
      clear hgo_
      have u2_ := Aside0.mk (blk_below H2.out hb)
      have uB_ := Aside0.mk (below_step HB.out hb)
      have uL_ := Aside0.mk (Kd.N_below HL.out hb)
      clear hb H2 HB HL
      have H2 := u2_
      have HB := uB_
      have HL := uL_
      clear u2_ uB_ uL_
      have HO := uO0_
      clear uO0_
      refine hK.out _ _ ⟨(blk_cell H2.out 0).trans rfl, (blk_cell H2.out 1).trans rfl, (blk_cell H2.out 2).trans rfl⟩ (fun hHeld => ?_)
      clear hK K
      refine norm_ (a' := ?_) ?_ ?_
      rotate_left
      · show Act.put _ (some 20) _ = _
        simp only [Act.put, sz_, s0_, s1_, i64_w, i32_w]
        rfl
      generalize wq3_ = wz_ at H2 HB HO HL hHeld ⊢
    rotate_left
    focus
      refine Kd.R_make_step (Kd.int .i64) _ 2 (by rfl) (N := 20) rfl 22 _ _ rfl (wrap64 ((W0 : Int) * (H0 : Int))) rfl rfl Try.underlying22 (.int .i64 0) 8 info2 rfl (by decide) (by omega) 0 (ok := fun _ => True) (okp := fun _ => True) rfl (fun _ hk => hk) trivial HN0.out HN8.out (Below.refl _ _) (Nat.le_refl _) ?_
      intro v20 wq4_ ho hb hg_ hnew_
      clear hg_ hnew_
      rw [HNe.out, ← sharesV_nil] at ho
      obtain ⟨go, co, e20, hgo_, _, _⟩ := Kd.R_form ho (by rw [sharesV_len]; exact HNp.out)
      rw [sharesV_len] at e20
      subst e20
      have HZO := Aside0.mk (show w.heap.size ≤ go by have := below_size HB.out; omega)
      have uO0_ := Aside0.mk (Kd.R_mono (ok' := fun k => k = go) (Kd.R_tight rfl (Kd.R_lower ho (below_size HB.out))) (fun k hk => by injection hk))
      clear ho
      clear hgo_
      have u2_ := Aside0.mk (blk_below H2.out hb)
      have uB_ := Aside0.mk (below_step HB.out hb)
      clear hb H2 HB
      have H2 := u2_
      have HB := uB_
      clear u2_ uB_
      have HO := uO0_
      clear uO0_
      refine hK.out _ _ ⟨(blk_cell H2.out 0).trans rfl, (blk_cell H2.out 1).trans rfl, (blk_cell H2.out 2).trans rfl⟩ (fun hHeld => ?_)
      clear hK K
      refine norm_ (a' := ?_) ?_ ?_
      rotate_left
      · show Act.put _ (some 20) _ = _
        simp only [Act.put, sz_, s0_, s1_, i64_w, i32_w]
        rfl
      refine one_ (i := 3) (N := some 14) (flg_ 12 1023) rfl rfl (one_of HT_.out (by kernel_rfl)) (by decide) (fun K hK => ?_)
      refine goes_ Try.func64 (by kernel_rfl) rfl #[.agg #[.int .i64 (W0 : Int), .int .i64 (H0 : Int), .slice A2 ships.length c2], .slice A12 ([] : List Int).length c12, .int .i64 0, .slice A3 T.length c3, .int .i64 (-1)] (by rfl) rfl rfl (by (try simp only [List.map_toArray, List.map_cons, List.map_nil]); first | done | rfl) ?_
      refine (spec_l09Go.does W0 H0 ships A2 c2 A3 c3 T HW.out.2 HH.out.2 HSz.out.2 HC2.out HTc.out HEnv.out.1 HEnv.out.2 ships.length [] 0 (-1) A12 c12 (fun _ => False) wq4_ HLen.out InPl.nil (by omega) (fnil_ _ _ _) (Nat.zero_le _) (Kd.C_below HT0.out HB.out) (Kd.C_below HSh.out HB.out)).mono ?_
      rintro e wq5_ ⟨v14, rfl, ho, hb⟩
      obtain ⟨A14, c14, e14⟩ := Kd.N_slice ho
      subst e14
      rw [HFl.out] at ho ⊢
      refine ⟨_, rfl, ?_⟩
      have hlt := Kd.R_lt HO.out go rfl
      have uL0_ := Aside0.mk (Kd.N_mono (ok' := fun k => k ≠ go) (Kd.N_lower ho (below_size HB.out)) (fun k hk e_ => by rcases hk with hk | hk; exact hk; omega))
      clear ho hlt
      have u2_ := Aside0.mk (blk_below H2.out hb)
      have uB_ := Aside0.mk (below_step HB.out hb)
      have uO_ := Aside0.mk (Kd.R_below HO.out hb)
      clear hb H2 HB HO
      have H2 := u2_
      have HB := uB_
      have HO := uO_
      clear u2_ uB_ uO_
      have HL := uL0_
      clear uL0_
      refine hK.out _ _ ⟨(blk_cell H2.out 0).trans rfl, (blk_cell H2.out 1).trans rfl, (blk_cell H2.out 2).trans rfl⟩ (fun hHeld => ?_)
      clear hK K
      refine norm_ (a' := ?_) ?_ ?_
      rotate_left
      · show Act.put _ (some 14) _ = _
        simp only [Act.put, sz_, s0_, s1_, i64_w, i32_w]
        rfl
      refine pure_ (i := 10) (N := some 6) (v := ?_) (a' := ?_) (flg_ 12 2047) rfl rfl (any_of HT_.out (by kernel_rfl)) (fun _ _ _ h => h) (Or.inl ⟨by rfl, ?_⟩) ?_ ?_
      rotate_left
      · intro w'
        go_simp
        with_reducible rfl
      rotate_left
      · simp only [Act.put, sz_, s0_, s1_, i64_w, i32_w]
        rfl
      generalize wq5_ = wz_ at H2 HB HO HL hHeld ⊢
    rotate_left
  rotate_left 2
  focus
    refine Kd.R_make_step (Kd.int .i64) _ 2 (by rfl) (N := 20) rfl 22 _ _ rfl (wrap64 ((W0 : Int) * (H0 : Int))) rfl rfl Try.underlying22 (.int .i64 0) 8 info2 rfl (by decide) (by omega) 0 (ok := fun _ => True) (okp := fun _ => True) rfl (fun _ hk => hk) trivial HN0.out HN8.out (Below.refl _ _) (Nat.le_refl _) ?_
    intro v20 wq6_ ho hb hg_ hnew_
    clear hg_ hnew_
    rw [HNe.out, ← sharesV_nil] at ho
    obtain ⟨go, co, e20, hgo_, _, _⟩ := Kd.R_form ho (by rw [sharesV_len]; exact HNp.out)
    rw [sharesV_len] at e20
    subst e20
    have HZO := Aside0.mk (show w.heap.size ≤ go by have := below_size HB.out; omega)
    have uO0_ := Aside0.mk (Kd.R_mono (ok' := fun k => k = go) (Kd.R_tight rfl (Kd.R_lower ho (below_size HB.out))) (fun k hk => by injection hk))
    clear ho
    clear hgo_
    have u2_ := Aside0.mk (blk_below H2.out hb)
    have uB_ := Aside0.mk (below_step HB.out hb)
    clear hb H2 HB
    have H2 := u2_
    have HB := uB_
    clear u2_ uB_
    have HO := uO0_
    clear uO0_
    refine hK.out _ _ ⟨(blk_cell H2.out 0).trans rfl, (blk_cell H2.out 1).trans rfl, (blk_cell H2.out 2).trans rfl⟩ (fun hHeld => ?_)
    clear hK K
    refine norm_ (a' := ?_) ?_ ?_
    rotate_left
    · show Act.put _ (some 20) _ = _
      simp only [Act.put, sz_, s0_, s1_, i64_w, i32_w]
      rfl
    refine one_ (i := 1) (N := some 12) (flg_ 12 1015) rfl rfl (one_of HT_.out (by kernel_rfl)) (by decide) (fun K hK => ?_)
    refine Kd.R_lit_step (Kd.int .i64) _ 2 ?hg (N := 12) ?hd (xs := ([] : List Int)) (inner := []) (ok := fun _ => True) (okp := fun _ => True) ?hr ?hp (fun _ hk => hk) trivial (Below.refl _ _) (Nat.le_refl _) (by simp) ?_; (case hd => rfl); (case hg => rfl); (case hr => first | (go_simp; done) | (go_simp; rfl)); (case hp => exact Reps.none _ _)
    intro v12 wq7_ ho hb hg_ hnew_
    clear hg_ hnew_
    obtain ⟨A12, c12, e12⟩ := Kd.R_slice ho
    subst e12
    clear ho
    have u2_ := Aside0.mk (blk_below H2.out hb)
    have uB_ := Aside0.mk (below_step HB.out hb)
    have uO_ := Aside0.mk (Kd.R_below HO.out hb)
    clear hb H2 HB HO
    have H2 := u2_
    have HB := uB_
    have HO := uO_
    clear u2_ uB_ uO_
    refine hK.out _ _ ⟨(blk_cell H2.out 0).trans rfl, (blk_cell H2.out 1).trans rfl, (blk_cell H2.out 2).trans rfl⟩ (fun hHeld => ?_)
    clear hK K
    refine norm_ (a' := ?_) ?_ ?_
    rotate_left
    · show Act.put _ (some 12) _ = _
      simp only [Act.put, sz_, s0_, s1_, i64_w, i32_w]
      rfl
    refine one_ (i := 3) (N := some 14) (flg_ 12 1023) rfl rfl (one_of HT_.out (by kernel_rfl)) (by decide) (fun K hK => ?_)
    refine goes_ Try.func64 (by kernel_rfl) rfl #[.agg #[.int .i64 (W0 : Int), .int .i64 (H0 : Int), .slice A2 ships.length c2], .slice A12 ([] : List Int).length c12, .int .i64 0, .slice A3 T.length c3, .int .i64 (-1)] (by rfl) rfl rfl (by (try simp only [List.map_toArray, List.map_cons, List.map_nil]); first | done | rfl) ?_
    refine (spec_l09Go.does W0 H0 ships A2 c2 A3 c3 T HW.out.2 HH.out.2 HSz.out.2 HC2.out HTc.out HEnv.out.1 HEnv.out.2 ships.length [] 0 (-1) A12 c12 (fun _ => False) wq7_ HLen.out InPl.nil (by omega) (fnil_ _ _ _) (Nat.zero_le _) (Kd.C_below HT0.out HB.out) (Kd.C_below HSh.out HB.out)).mono ?_
    rintro e wq8_ ⟨v14, rfl, ho, hb⟩
    obtain ⟨A14, c14, e14⟩ := Kd.N_slice ho
    subst e14
    rw [HFl.out] at ho ⊢
    refine ⟨_, rfl, ?_⟩
    have hlt := Kd.R_lt HO.out go rfl
    have uL0_ := Aside0.mk (Kd.N_mono (ok' := fun k => k ≠ go) (Kd.N_lower ho (below_size HB.out)) (fun k hk e_ => by rcases hk with hk | hk; exact hk; omega))
    clear ho hlt
    have u2_ := Aside0.mk (blk_below H2.out hb)
    have uB_ := Aside0.mk (below_step HB.out hb)
    have uO_ := Aside0.mk (Kd.R_below HO.out hb)
    clear hb H2 HB HO
    have H2 := u2_
    have HB := uB_
    have HO := uO_
    clear u2_ uB_ uO_
    have HL := uL0_
    clear uL0_
    refine hK.out _ _ ⟨(blk_cell H2.out 0).trans rfl, (blk_cell H2.out 1).trans rfl, (blk_cell H2.out 2).trans rfl⟩ (fun hHeld => ?_)
    clear hK K
    refine norm_ (a' := ?_) ?_ ?_
    rotate_left
    · show Act.put _ (some 14) _ = _
      simp only [Act.put, sz_, s0_, s1_, i64_w, i32_w]
      rfl
    refine pure_ (i := 10) (N := some 6) (v := ?_) (a' := ?_) (flg_ 12 2047) rfl rfl (any_of HT_.out (by kernel_rfl)) (fun _ _ _ h => h) (Or.inl ⟨by rfl, ?_⟩) ?_ ?_
    rotate_left
    · intro w'
      go_simp
      with_reducible rfl
    rotate_left
    · simp only [Act.put, sz_, s0_, s1_, i64_w, i32_w]
      rfl
    generalize wq8_ = wz_ at H2 HB HO HL hHeld ⊢
  rotate_left
  all_goals
    refine pure_ (i := 11) (N := some 7) (v := ?_) (a' := ?_) (flg_ 12 4095) rfl rfl (any_of HT_.out (by kernel_rfl)) (fun _ _ _ h => h) (Or.inl ⟨by rfl, ?_⟩) ?_ ?_
    rotate_left
    · intro w'
      go_simp
      with_reducible rfl
    rotate_left
    · simp only [Act.put, sz_, s0_, s1_, i64_w, i32_w]
      rfl
    refine done_ (done_of HT_.out (by kernel_rfl)) ?_
    clear H2 hHeld
    (try go_wp2_with fail)
    go_loopg [8] fls.length (fun gg s8 wr => ∃ i : Nat, i ≤ fls.length ∧ fls.length - i ≤ gg ∧ s8 = .int .i64 i ∧ Aside0 (Kd.N (Kd.slice 2 (Kd.int .i64)) 22 wr w.heap.size (fun k => k ≠ go) (.slice A14 fls.length c14) fls) ∧ Aside0 (Kd.R (Kd.int .i64) 2 wr w.heap.size (fun k => k = go) (.slice (some ⟨go, 0, none⟩) N co) (sharesV N (fls.take i))) ∧ Aside0 (Below w.heap.size w wr))
    case atStart => exact ⟨0, Nat.zero_le _, Nat.le_refl _, rfl, HL, HO, HB⟩
    case round =>
      clear HL HO HB
      obtain ⟨i, hi, hgi, rfl, HL, HO, HB⟩ := hrel
      by_cases hlt : i < fls.length
      · obtain ⟨ad, cl_, rfl, hcl_, hK_, hcc⟩ := Kd.C_get (Kd.N_reads' HL.out).2.2 [] (i : Int) (by omega) (by omega)
        obtain ⟨Ae, ce, rfl, hle, hCe⟩ := hK_
        have hxe := hcc 0 _ rfl
        obtain ⟨fe, hfe⟩ : ∃ fe, fls[i] = fe := ⟨_, rfl⟩
        rw [Int.toNat_natCast, List.getD_eq_getElem?_getD, List.getElem?_eq_getElem hlt, Option.getD_some, hfe] at hxe hle hCe
        rw [show (Kd.slice 2 (Kd.int .i64)).sz = 1 from rfl, Nat.mul_one, Nat.add_zero] at hxe
        obtain ⟨hfl, V, hV, hV2⟩ := HNum.out fe (by rw [← hfe]; exact List.getElem_mem hlt)
        obtain ⟨ks, hks⟩ := specSet_ev fe hfl
        have hks2 := hks ks (Nat.le_refl _)
        rw [hV] at hks2
        obtain ⟨kc, hkc⟩ := specCells_ev (V : Int)
        obtain ⟨cs, hcs⟩ : ∃ cs, chosenTo (bitIn (V : Int)) 25 = cs := ⟨_, rfl⟩
        have hkc2 := hkc kc (Nat.le_refl _)
        simp only [hcs] at hkc2
        have HStep := Aside0.mk (fun (j : Nat) (hj : j < cs.length) => show ∃ c : Nat, cs[j] = (c : Int) ∧ c < N ∧ (c : Int) ∉ cs.take j by subst hcs; exact chosen_step hV2 HN25.out hj)
        have HFin := Aside0.mk (show shareSome N (fls.take i) cs = sharesV N (fls.take (i + 1)) by
          rw [List.take_succ_eq_append_getElem hlt, hfe, ← shareSome_all (n := 25) _ _ HN25.out, hV, hcs])
        have hcs25 : cs.length ≤ 25 := by rw [← hcs]; exact chosenTo_le _ 25
        have HSet := Aside0.mk hks2
        have HCs := Aside0.mk hkc2
        have HCe := Aside0.mk hCe
        have HLe := Aside0.mk hle
        have HC25 := Aside0.mk hcs25
        have q1 := decide_eq_true (show (i : Int) < (fls.length : Int) by omega)
        have q2 := decide_eq_true hlt
        have q3 := eq_true (show (i : Int) < (fls.length : Int) by omega)
        have q4 := eq_true (show (0 : Int) ≤ (i : Int) by omega)
        have q5 := eq_true hlt
        have HIm := Aside0.mk (show fls.length - (i + 1) < gk by omega)
        have HIr := Aside0.mk (show i + 1 ≤ fls.length by omega)
        have HIs := Aside0.mk (show wrap64 ((i : Int) + 1) = ((i + 1 : Nat) : Int) from wrap_nat1 hlt (by have := HFlen.out; omega))
        have HDn := Aside0.mk (show (fls.take i).length ≤ 1000000 by rw [List.length_take]; have := HFlen.out; omega)
        clear hcc hcl_ hks hks2 hkc hkc2 hcs hcs25 hV hV2 hfl hfe hle hCe hi hgi hlt
        go_wp2_with (first | (go_at_call 70; refine (spec_l09Set.calls ks Ae ce fe (V : Int) _ HCe.out HLe.out HSet.out).mono ?_; rintro e w3 ⟨rfl, hd⟩; have hb := hd.below; clear hd; (try clear hxe); have vHL_ := Aside0.mk (Kd.N_below HL.out hb); have vHO_ := Aside0.mk (Kd.R_below HO.out hb); have vHB_ := Aside0.mk (below_step HB.out hb); clear hb HL HO HB; have HL := vHL_; have HO := vHO_; have HB := vHB_; clear vHL_ vHO_ vHB_) | (go_at_call 69; refine (spec_l09Cells.calls kc (V : Int) cs _ HCs.out).mono ?_; rintro e w4 ⟨v32, rfl, ho, hb⟩; obtain ⟨Ac, cc, ec⟩ := Kd.R_slice ho; subst ec; have hlt := Kd.R_lt HO.out go rfl; have HC := Aside0.mk (Kd.R_lower (Kd.R_mono (ok' := fun k => k ≠ go) (Kd.R_bound ho) (fun k hk e_ => by have h1 := hk.2.1; omega)) (below_size HB.out)); clear ho hlt; have vHL_ := Aside0.mk (Kd.N_below HL.out hb); have vHO_ := Aside0.mk (Kd.R_below HO.out hb); have vHB_ := Aside0.mk (below_step HB.out hb); clear hb HL HO HB; have HL := vHL_; have HO := vHO_; have HB := vHB_; clear vHL_ vHO_ vHB_))
        (try clear hxe)
        clear q1 q2 q3 q4 q5
        go_loopg [10] cs.length (fun gg s10 wr => ∃ j : Nat, j ≤ cs.length ∧ cs.length - j ≤ gg ∧ s10 = .int .i64 j ∧ Aside0 (Kd.N (Kd.slice 2 (Kd.int .i64)) 22 wr w.heap.size (fun k => k ≠ go) (.slice (some ad) fls.length c14) fls) ∧ Aside0 (Kd.R (Kd.int .i64) 2 wr w.heap.size (fun k => k = go) (.slice (some ⟨go, 0, none⟩) N co) (shareSome N (fls.take i) (cs.take j))) ∧ Aside0 (Kd.R (Kd.int .i64) 2 wr w.heap.size (fun k => k ≠ go) (.slice Ac cs.length cc) cs) ∧ Aside0 (Below w.heap.size w wr))
        case atStart => exact ⟨0, Nat.zero_le _, Nat.le_refl _, rfl, HL, ⟨by rw [List.take_zero, shareSome_nil]; exact HO.out⟩, HC, HB⟩
        case round =>
          clear HL HO HC HB
          obtain ⟨j, hj, hgj, rfl, HL, HO, HC, HB⟩ := hrel
          by_cases hlt : j < cs.length
          · obtain ⟨c, hc, hcN, hcn⟩ := HStep.out j hlt
            obtain ⟨adc, rfl, hxc⟩ := Kd.at_int (Kd.R_reads' HC.out).2.2 (j : Int) (by omega) (by omega)
            rw [Int.toNat_natCast, rd_get cs j hlt, hc] at hxc
            obtain ⟨ado, eo, hxo⟩ := Kd.at_int (Kd.R_reads' HO.out).2.2 (c : Int) (by omega) (by rw [shareSome_len]; omega)
            injection eo with eo
            subst eo
            rw [Int.toNat_natCast, shareSome_rd _ _ hcN hcn, add_at, Nat.zero_add] at hxo
            have hsb := shareAt_bound (fls.take i) c
            obtain ⟨cells_, hrb⟩ := row_blk_ HO.out (by rw [shareSome_len]; exact HNp.out)
            have hfR := blk_frozen hrb c
            obtain ⟨z, hz⟩ : ∃ z, shareAt (fls.take i) c + 1 = z := ⟨_, rfl⟩
            have HSv := Aside0.mk (show (shareSome N (fls.take i) (cs.take j)).set c z = shareSome N (fls.take i) (cs.take (j + 1)) by rw [← hz, shareSome_set _ _ hcN hcn, List.take_succ_eq_append_getElem hlt, hc])
            obtain ⟨sv, hsv⟩ : ∃ sv, shareAt (fls.take i) c = sv := ⟨_, rfl⟩
            rw [hsv] at hz hsb hxo
            have hwz : wrap64 (sv + 1) = z := by rw [← hz]; have := HDn.out; unfold wrap64; omega
            have p1 := decide_eq_true (show (j : Int) < (cs.length : Int) by omega)
            have p2 := decide_eq_true hlt
            have p3 := eq_true (show (j : Int) < (cs.length : Int) by omega)
            have p4 := eq_true (show (0 : Int) ≤ (j : Int) by omega)
            have p5 := eq_true hlt
            have p6 := eq_true (show (0 : Int) ≤ (c : Int) by omega)
            have p7 := eq_true (show (c : Int) < (N : Int) by omega)
            have p8 := eq_true hcN
            have HJm := Aside0.mk (show cs.length - (j + 1) < gk by omega)
            have HJr := Aside0.mk (show j + 1 ≤ cs.length by omega)
            have HJs := Aside0.mk (show wrap64 ((j : Int) + 1) = ((j + 1 : Nat) : Int) from wrap_one (a := j) (by have := HC25.out; omega))
            clear hsb hrb hz hsv hc hcn hcN hj hgj hlt
            go_wp2_with fail
            go_roundg (cs.length - (j + 1))
            case measure => exact HJm.out
            case rel => exact ⟨j + 1, HJr.out, Nat.le_refl _, (by first | rfl | exact congrArg (Value.int .i64) HJs.out), ⟨Kd.N_far (p := ⟨go, c, none⟩) HL.out (fun _ hk => hk) (.int .i64 z)⟩, ⟨by have vO_ := Kd.R_putn HO.out (c : Int) z; rw [Int.toNat_natCast, HSv.out] at vO_; exact vO_⟩, ⟨Kd.R_far (p := ⟨go, c, none⟩) HC.out (fun _ hk => hk) (.int .i64 z)⟩, ⟨below_set HB.out HZO.out⟩⟩
          · have hje : j = cs.length := by omega
            subst hje
            have p1 := decide_eq_false (show ¬ (cs.length : Int) < (cs.length : Int) by omega)
            go_wp2_with fail
            go_roundg (fls.length - (i + 1))
            case measure => exact HIm.out
            case rel => exact ⟨i + 1, HIr.out, Nat.le_refl _, (by first | rfl | exact congrArg (Value.int .i64) HIs.out), HL, ⟨by have := HO.out; rw [List.take_length, HFin.out] at this; exact this⟩, HB⟩
      · have hie : i = fls.length := by omega
        subst hie
        have q1 := decide_eq_false (show ¬ (fls.length : Int) < (fls.length : Int) by omega)
        go_wp2_with fail
        go_ret2
        exact ⟨_, rfl, Kd.R_mono (by have := HO.out; rw [List.take_length] at this; exact this) (fun _ _ => trivial), HB.out⟩
/-! ### spec_SharesOf: function 47 -/
def spec_SharesOf.f (k : Nat) (a0_0 : Int) (a0_1 : Int) (l0_2 : List Int) (l1 : List (S93)) : Option (List Int × Int) := (spec_l09Shots.f k a0_0 a0_1 l0_2 l1).bind fun t883 => (if t883 = 0 then ((spec_l09Shares.f a0_0 a0_1 l0_2 l1).bind fun bt884 => (some (bt884.1, 0))) else (some (([] : List Int), t883)))
set_option maxHeartbeats 8000000 in
set_option maxRecDepth 100000 in
theorem spec_SharesOf.calls (k : Nat) (a0_0 : Int) (a0_1 : Int) (A0_2 : Option Addr) (c0_2 : Nat) (l0_2 : List Int) (A1 : Option Addr) (c1 : Nat) (l1 : List (S93)) (r1 : List Int) (r2 : Int) (w : World) (hr0_2 : Kd.C (Kd.int .i64) w A0_2 l0_2.length l0_2) (hc0_2 : l0_2.length ≤ c0_2) (hr1 : Kd.C k93 w A1 l1.length l1) (hc1 : l1.length ≤ c1) (h : spec_SharesOf.f k a0_0 a0_1 l0_2 l1 = some (r1, r2)) :
  Calls Try.prog 47 #[.agg #[.int .i64 a0_0, .int .i64 a0_1, .slice A0_2 l0_2.length c0_2], .slice A1 l1.length c1] w fun e w' => ∃ v0_ : Value, e = .returned (.tuple #[v0_, .int .i64 r2]) ∧ Kd.R (Kd.int .i64) 2 w' w.heap.size (fun _ => True) v0_ r1 ∧ Below w.heap.size w w' := by
 have hu28 := Try.underlying28
 have HR0_2 := Aside0.mk hr0_2
 have HC0_2 := Aside0.mk hc0_2
 clear hr0_2 hc0_2
 have HR1 := Aside0.mk hr1
 have HC1 := Aside0.mk hc1
 clear hr1 hc1
 have HB := Aside0.mk (Below.refl w.heap.size w)
 have H : ((spec_l09Shots.f k a0_0 a0_1 l0_2 l1).bind fun t883 => (if t883 = 0 then ((spec_l09Shares.f a0_0 a0_1 l0_2 l1).bind fun bt884 => (some (bt884.1, 0))) else (some (([] : List Int), t883)))) = some (r1, r2) := h
 clear h
 replace H := Option.bind_eq_some_iff.mp H
 obtain ⟨t883, A30, H⟩ := H
 replace H : (if t883 = 0 then ((spec_l09Shares.f a0_0 a0_1 l0_2 l1).bind fun bt884 => (some (bt884.1, 0))) else (some (([] : List Int), t883))) = some (r1, r2) := H
 have A3 := Aside0.mk A30
 clear A30
 by_cases c4 : t883 = 0
 ·rw [if_pos c4] at H
  have c4b0 : (t883 == 0) = true := beq_iff_eq.mpr c4
  have c4b1 : (t883 != 0) = false := bne_eq_false_iff_eq.mpr c4
  clear c4
  replace H := Option.bind_eq_some_iff.mp H
  obtain ⟨⟨t884, t887⟩, A50, H⟩ := H
  replace H : (some (t884, 0)) = some (r1, r2) := H
  have A5 := Aside0.mk A50
  clear A50
  simp only [Option.some.injEq, Prod.mk.injEq] at H
  obtain ⟨rfl, rfl⟩ := H
  go_enter Try.func47, Try.ntmps47
  go_wp2_with (first | ((with_reducible refine gate_dst (N := 2) rfl ?_); refine box_event ?hg (N := 2) ?hd (cs := #[.int .i64 a0_0, .int .i64 a0_1, .slice A0_2 l0_2.length c0_2]) (t := 28) ?hr ?_; (case hd => rfl); (case hg => rfl); (case hr => first | (go_simp; done) | (go_simp; rfl)); intro gb882 hg w6 hbox hb; have n0_ := Aside0.mk (below_step hb_ hb); have n1_ := Aside0.mk (hbox); have n2_ := Aside0.mk ((by rw [hg]; exact (below_size hb_) : w.heap.size ≤ gb882)); have n3_ := Aside0.mk ((by rw [hg]; exact (below_size hb_) : w.heap.size ≤ gb882)); clear HB; have HB := n0_; have BK882 := n1_; have GW882 := n2_; have GE882 := n3_; clear n0_ n1_ n2_ n3_; clear hb hbox hg; have hcz7_0 : w6.cell? ⟨gb882, 0, none⟩ = some (.int .i64 a0_0) := (blk_cell BK882.out 0).trans rfl; have hcz7_1 : w6.cell? ⟨gb882, 1, none⟩ = some (.int .i64 a0_1) := (blk_cell BK882.out 1).trans rfl; have hcz7_2 : w6.cell? ⟨gb882, 2, none⟩ = some (.slice A0_2 l0_2.length c0_2) := (blk_cell BK882.out 2).trans rfl; have hfz7_0 := blk_frozen BK882.out 0; have hfz7_1 := blk_frozen BK882.out 1; have hfz7_2 := blk_frozen BK882.out 2) | ((with_reducible refine gate_callee (f := 83) rfl ?_); refine goesA_ (some 11) rfl rfl Try.func83 (by kernel_rfl) rfl #[.agg #[.int .i64 a0_0, .int .i64 a0_1, .slice A0_2 l0_2.length c0_2], .slice A1 l1.length c1] rfl ?_; (with_reducible refine (spec_l09Shots.calls k a0_0 a0_1 _ _ l0_2 _ _ l1 t883 _ ?side1 ?side2 ?side3 ?side4 A3.out).mono ?_); (case side1 => repeat (first | exact (Kd.C_below HR0_2.out HB.out) | (with_reducible refine Kd.C_alloc ?_ _) | (with_reducible refine Kd.C_drewN ?_ _) | (with_reducible refine Kd.C_drew ?_))); (case side2 => exact HC0_2.out); (case side3 => repeat (first | exact (Kd.C_below HR1.out HB.out) | (with_reducible refine Kd.C_alloc ?_ _) | (with_reducible refine Kd.C_drewN ?_ _) | (with_reducible refine Kd.C_drew ?_))); (case side4 => exact HC1.out); rintro e w8 ⟨rfl, hb⟩; refine ⟨_, rfl, ?_⟩; have n0_ := Aside0.mk (blk_below (g := gb882) (o := .cells #[.int .i64 a0_0, .int .i64 a0_1, .slice A0_2 l0_2.length c0_2] 28 (0, 0)) (by (with_reducible repeat (first | refine blk_drewN ?_ _ | refine blk_drew ?_ | refine blk_alloc ?_ _)); exact BK882.out) hb); have n1_ := Aside0.mk (below_step (by repeat (first | (with_reducible first | exact HB.out | apply below_alloc | apply pw_below_drewN | apply below_drew1 | refine below_set ?_ GE882.out) | exact HB.out)) hb); clear BK882; clear HB; have BK882 := n0_; have HB := n1_; clear n0_ n1_; (try clear hb); (try clear hb2); (try clear hk); (try clear hi); have hcz9_0 : w8.cell? ⟨gb882, 0, none⟩ = some (.int .i64 a0_0) := (blk_cell BK882.out 0).trans rfl; have hcz9_1 : w8.cell? ⟨gb882, 1, none⟩ = some (.int .i64 a0_1) := (blk_cell BK882.out 1).trans rfl; have hcz9_2 : w8.cell? ⟨gb882, 2, none⟩ = some (.slice A0_2 l0_2.length c0_2) := (blk_cell BK882.out 2).trans rfl; have hfz9_0 := blk_frozen BK882.out 0; have hfz9_1 := blk_frozen BK882.out 1; have hfz9_2 := blk_frozen BK882.out 2) | ((with_reducible refine gate_callee (f := 91) rfl ?_); refine goesA_ (some 18) rfl rfl Try.func91 (by kernel_rfl) rfl #[.agg #[.int .i64 a0_0, .int .i64 a0_1, .slice A0_2 l0_2.length c0_2], .slice A1 l1.length c1] rfl ?_; (with_reducible refine (spec_l09Shares.calls a0_0 a0_1 _ _ l0_2 _ _ l1 t884 t887 _ ?side1 ?side2 ?side3 ?side4 A5.out).mono ?_); (case side1 => repeat (first | exact (Kd.C_below HR0_2.out HB.out) | (with_reducible refine Kd.C_alloc ?_ _) | (with_reducible refine Kd.C_drewN ?_ _) | (with_reducible refine Kd.C_drew ?_))); (case side2 => exact HC0_2.out); (case side3 => repeat (first | exact (Kd.C_below HR1.out HB.out) | (with_reducible refine Kd.C_alloc ?_ _) | (with_reducible refine Kd.C_drewN ?_ _) | (with_reducible refine Kd.C_drew ?_))); (case side4 => exact HC1.out); rintro e w10 ⟨v885, rfl, ho0, hb⟩; refine ⟨_, rfl, ?_⟩; have n0_ := Aside0.mk (Kd.R_lower ho0 (below_size (by repeat (first | (with_reducible first | exact HB.out | apply below_alloc | apply pw_below_drewN | apply below_drew1 | refine below_set ?_ GE882.out) | exact HB.out)))); have n1_ := Aside0.mk (blk_below (g := gb882) (o := .cells #[.int .i64 a0_0, .int .i64 a0_1, .slice A0_2 l0_2.length c0_2] 28 (0, 0)) (by (with_reducible repeat (first | refine blk_drewN ?_ _ | refine blk_drew ?_ | refine blk_alloc ?_ _)); exact BK882.out) hb); have n2_ := Aside0.mk (below_step (by repeat (first | (with_reducible first | exact HB.out | apply below_alloc | apply pw_below_drewN | apply below_drew1 | refine below_set ?_ GE882.out) | exact HB.out)) hb); clear BK882; clear HB; have HO886 := n0_; have BK882 := n1_; have HB := n2_; clear n0_ n1_ n2_; (try clear hb); (try clear hb2); (try clear hk); (try clear hi); (try clear ho0)))
  go_ret2
  exact ⟨_, by first | rfl | (simp [errW_none, errW_some] <;> rfl) | (simp [*, errW_none, errW_some] <;> rfl), by (with_reducible repeat (first | apply Kd.R_alloc | apply Kd.R_drewN | apply Kd.R_drew)); exact HO886.out, by repeat (first | (with_reducible first | exact HB.out | apply below_alloc | apply pw_below_drewN | apply below_drew1 | refine below_set ?_ GE882.out) | exact HB.out)⟩
 ·rw [if_neg c4] at H
  have c4b0 : (t883 == 0) = false := beq_eq_false_iff_ne.mpr c4
  have c4b1 : (t883 != 0) = true := bne_iff_ne.mpr c4
  simp only [Option.some.injEq, Prod.mk.injEq] at H
  obtain ⟨rfl, rfl⟩ := H
  go_enter Try.func47, Try.ntmps47
  go_wp2_with (first | ((with_reducible refine gate_dst (N := 2) rfl ?_); refine box_event ?hg (N := 2) ?hd (cs := #[.int .i64 a0_0, .int .i64 a0_1, .slice A0_2 l0_2.length c0_2]) (t := 28) ?hr ?_; (case hd => rfl); (case hg => rfl); (case hr => first | (go_simp; done) | (go_simp; rfl)); intro gb882 hg w11 hbox hb; have n0_ := Aside0.mk (below_step hb_ hb); have n1_ := Aside0.mk (hbox); have n2_ := Aside0.mk ((by rw [hg]; exact (below_size hb_) : w.heap.size ≤ gb882)); have n3_ := Aside0.mk ((by rw [hg]; exact (below_size hb_) : w.heap.size ≤ gb882)); clear HB; have HB := n0_; have BK882 := n1_; have GW882 := n2_; have GE882 := n3_; clear n0_ n1_ n2_ n3_; clear hb hbox hg; have hcz12_0 : w11.cell? ⟨gb882, 0, none⟩ = some (.int .i64 a0_0) := (blk_cell BK882.out 0).trans rfl; have hcz12_1 : w11.cell? ⟨gb882, 1, none⟩ = some (.int .i64 a0_1) := (blk_cell BK882.out 1).trans rfl; have hcz12_2 : w11.cell? ⟨gb882, 2, none⟩ = some (.slice A0_2 l0_2.length c0_2) := (blk_cell BK882.out 2).trans rfl; have hfz12_0 := blk_frozen BK882.out 0; have hfz12_1 := blk_frozen BK882.out 1; have hfz12_2 := blk_frozen BK882.out 2) | ((with_reducible refine gate_callee (f := 83) rfl ?_); refine goesA_ (some 11) rfl rfl Try.func83 (by kernel_rfl) rfl #[.agg #[.int .i64 a0_0, .int .i64 a0_1, .slice A0_2 l0_2.length c0_2], .slice A1 l1.length c1] rfl ?_; (with_reducible refine (spec_l09Shots.calls k a0_0 a0_1 _ _ l0_2 _ _ l1 t883 _ ?side1 ?side2 ?side3 ?side4 A3.out).mono ?_); (case side1 => repeat (first | exact (Kd.C_below HR0_2.out HB.out) | (with_reducible refine Kd.C_alloc ?_ _) | (with_reducible refine Kd.C_drewN ?_ _) | (with_reducible refine Kd.C_drew ?_))); (case side2 => exact HC0_2.out); (case side3 => repeat (first | exact (Kd.C_below HR1.out HB.out) | (with_reducible refine Kd.C_alloc ?_ _) | (with_reducible refine Kd.C_drewN ?_ _) | (with_reducible refine Kd.C_drew ?_))); (case side4 => exact HC1.out); rintro e w13 ⟨rfl, hb⟩; refine ⟨_, rfl, ?_⟩; have n0_ := Aside0.mk (blk_below (g := gb882) (o := .cells #[.int .i64 a0_0, .int .i64 a0_1, .slice A0_2 l0_2.length c0_2] 28 (0, 0)) (by (with_reducible repeat (first | refine blk_drewN ?_ _ | refine blk_drew ?_ | refine blk_alloc ?_ _)); exact BK882.out) hb); have n1_ := Aside0.mk (below_step (by repeat (first | (with_reducible first | exact HB.out | apply below_alloc | apply pw_below_drewN | apply below_drew1 | refine below_set ?_ GE882.out) | exact HB.out)) hb); clear BK882; clear HB; have BK882 := n0_; have HB := n1_; clear n0_ n1_; (try clear hb); (try clear hb2); (try clear hk); (try clear hi)))
  go_ret2
  exact ⟨_, by first | rfl | (simp [errW_none, errW_some] <;> rfl) | (simp [*, errW_none, errW_some] <;> rfl), by first | exact Kd.R_nil _ _ _ _ _ | exact Kd.N_nil _ _ _ _ _ | exact Kd.V_nil _ _ _ _ _ | exact Kd.Q_nil _ _ _ _ _ | exact Kd.S_nil _ _ _ _ _, by repeat (first | (with_reducible first | exact HB.out | apply below_alloc | apply pw_below_drewN | apply below_drew1 | refine below_set ?_ GE882.out) | exact HB.out)⟩
/-! ### impl_shotsCode: function 89 -/
def impl_shotsCode.f (k : Nat) (a0_0 : Int) (a0_1 : Int) (l0_2 : List Int) (l1 : List (S93)) : Option (Int) := (impl_IsSea.f k a0_0 a0_1 l0_2).bind fun t836 => (if t836 = true then ((impl_Sea_areShots.f k a0_0 a0_1 l0_2 l1).bind fun t837 => ((impl_first.f k (([(⟨t837, 2⟩ : S70)] : List (S70)))).bind fun t841 => (some t841))) else (some 1))
set_option maxHeartbeats 8000000 in
set_option maxRecDepth 100000 in
theorem impl_shotsCode.calls (k : Nat) (a0_0 : Int) (a0_1 : Int) (A0_2 : Option Addr) (c0_2 : Nat) (l0_2 : List Int) (A1 : Option Addr) (c1 : Nat) (l1 : List (S93)) (r : Int) (w : World) (hr0_2 : Kd.C (Kd.int .i64) w A0_2 l0_2.length l0_2) (hc0_2 : l0_2.length ≤ c0_2) (hr1 : Kd.C k93 w A1 l1.length l1) (hc1 : l1.length ≤ c1) (h : impl_shotsCode.f k a0_0 a0_1 l0_2 l1 = some r) :
  Calls Try.prog 89 #[.agg #[.int .i64 a0_0, .int .i64 a0_1, .slice A0_2 l0_2.length c0_2], .slice A1 l1.length c1] w fun e w' => e = .returned (.int .i64 r) ∧ Below w.heap.size w w' := by
 have hu28 := Try.underlying28
 have hu70 := Try.underlying70
 have HR0_2 := Aside0.mk hr0_2
 have HC0_2 := Aside0.mk hc0_2
 clear hr0_2 hc0_2
 have HR1 := Aside0.mk hr1
 have HC1 := Aside0.mk hc1
 clear hr1 hc1
 have HB := Aside0.mk (Below.refl w.heap.size w)
 have H : ((impl_IsSea.f k a0_0 a0_1 l0_2).bind fun t836 => (if t836 = true then ((impl_Sea_areShots.f k a0_0 a0_1 l0_2 l1).bind fun t837 => ((impl_first.f k (([(⟨t837, 2⟩ : S70)] : List (S70)))).bind fun t841 => (some t841))) else (some 1))) = some r := h
 clear h
 replace H := Option.bind_eq_some_iff.mp H
 obtain ⟨t836, A30, H⟩ := H
 replace H : (if t836 = true then ((impl_Sea_areShots.f k a0_0 a0_1 l0_2 l1).bind fun t837 => ((impl_first.f k (([(⟨t837, 2⟩ : S70)] : List (S70)))).bind fun t841 => (some t841))) else (some 1)) = some r := H
 have A3 := Aside0.mk A30
 clear A30
 by_cases c4 : t836 = true
 ·subst c4
  have H1 : ((impl_Sea_areShots.f k a0_0 a0_1 l0_2 l1).bind fun t837 => ((impl_first.f k (([(⟨t837, 2⟩ : S70)] : List (S70)))).bind fun t841 => (some t841))) = some r := by rw [if_pos rfl] at H; exact H
  clear H
  have H := H1
  clear H1
  replace H := Option.bind_eq_some_iff.mp H
  obtain ⟨t837, A50, H⟩ := H
  replace H : ((impl_first.f k (([(⟨t837, 2⟩ : S70)] : List (S70)))).bind fun t841 => (some t841)) = some r := H
  have A5 := Aside0.mk A50
  clear A50
  obtain ⟨y838, hy838⟩ : ∃ y_ : List (S70), y_ = (([(⟨t837, 2⟩ : S70)] : List (S70))) := ⟨_, rfl⟩
  replace H : ((impl_first.f k y838).bind fun t841 => (some t841)) = some r := by first | (rw [hy838]; with_reducible exact H) | (have H2_ := (Option.bind_some _ _).symm.trans H; rw [hy838]; with_reducible exact H2_) | (have H2_ := (Option.bind_some _ _).symm.trans H; with_reducible exact H2_) | with_reducible exact H | (rw [hy838]; exact H) | exact H
  have Ny838 := Aside0.mk hy838
  clear hy838
  replace H := Option.bind_eq_some_iff.mp H
  obtain ⟨t841, A60, H⟩ := H
  replace H : (some t841) = some r := H
  have A6 := Aside0.mk A60
  clear A60
  obtain rfl := Option.some.inj H
  go_enter Try.func89, Try.ntmps89
  go_wp2_with (first | ((with_reducible refine gate_dst (N := 2) rfl ?_); refine box_event ?hg (N := 2) ?hd (cs := #[.int .i64 a0_0, .int .i64 a0_1, .slice A0_2 l0_2.length c0_2]) (t := 28) ?hr ?_; (case hd => rfl); (case hg => rfl); (case hr => first | (go_simp; done) | (go_simp; rfl)); intro gb835 hg w7 hbox hb; have n0_ := Aside0.mk (below_step hb_ hb); have n1_ := Aside0.mk (hbox); have n2_ := Aside0.mk ((by rw [hg]; exact (below_size hb_) : w.heap.size ≤ gb835)); have n3_ := Aside0.mk ((by rw [hg]; exact (below_size hb_) : w.heap.size ≤ gb835)); clear HB; have HB := n0_; have BK835 := n1_; have GW835 := n2_; have GE835 := n3_; clear n0_ n1_ n2_ n3_; clear hb hbox hg; have hcz8_0 : w7.cell? ⟨gb835, 0, none⟩ = some (.int .i64 a0_0) := (blk_cell BK835.out 0).trans rfl; have hcz8_1 : w7.cell? ⟨gb835, 1, none⟩ = some (.int .i64 a0_1) := (blk_cell BK835.out 1).trans rfl; have hcz8_2 : w7.cell? ⟨gb835, 2, none⟩ = some (.slice A0_2 l0_2.length c0_2) := (blk_cell BK835.out 2).trans rfl; have hfz8_0 := blk_frozen BK835.out 0; have hfz8_1 := blk_frozen BK835.out 1; have hfz8_2 := blk_frozen BK835.out 2) | ((with_reducible refine gate_callee (f := 59) rfl ?_); refine goesA_ (some 6) rfl rfl Try.func59 (by kernel_rfl) rfl #[.agg #[.int .i64 a0_0, .int .i64 a0_1, .slice A0_2 l0_2.length c0_2]] rfl ?_; (with_reducible refine (impl_IsSea.calls k a0_0 a0_1 _ _ l0_2 true _ ?side1 ?side2 A3.out).mono ?_); (case side1 => repeat (first | exact (Kd.C_below HR0_2.out HB.out) | (with_reducible refine Kd.C_alloc ?_ _) | (with_reducible refine Kd.C_drewN ?_ _) | (with_reducible refine Kd.C_drew ?_))); (case side2 => exact HC0_2.out); rintro e w9 ⟨rfl, hb⟩; refine ⟨_, rfl, ?_⟩; have n0_ := Aside0.mk (blk_below (g := gb835) (o := .cells #[.int .i64 a0_0, .int .i64 a0_1, .slice A0_2 l0_2.length c0_2] 28 (0, 0)) (by (with_reducible repeat (first | refine blk_drewN ?_ _ | refine blk_drew ?_ | refine blk_alloc ?_ _)); exact BK835.out) hb); have n1_ := Aside0.mk (below_step (by repeat (first | (with_reducible first | exact HB.out | apply below_alloc | apply pw_below_drewN | apply below_drew1 | refine below_set ?_ GE835.out) | exact HB.out)) hb); clear BK835; clear HB; have BK835 := n0_; have HB := n1_; clear n0_ n1_; (try clear hb); (try clear hb2); (try clear hk); (try clear hi); have hcz10_0 : w9.cell? ⟨gb835, 0, none⟩ = some (.int .i64 a0_0) := (blk_cell BK835.out 0).trans rfl; have hcz10_1 : w9.cell? ⟨gb835, 1, none⟩ = some (.int .i64 a0_1) := (blk_cell BK835.out 1).trans rfl; have hcz10_2 : w9.cell? ⟨gb835, 2, none⟩ = some (.slice A0_2 l0_2.length c0_2) := (blk_cell BK835.out 2).trans rfl; have hfz10_0 := blk_frozen BK835.out 0; have hfz10_1 := blk_frozen BK835.out 1; have hfz10_2 := blk_frozen BK835.out 2) | ((with_reducible refine gate_callee (f := 86) rfl ?_); refine goesA_ (some 10) rfl rfl Try.func86 (by kernel_rfl) rfl #[.agg #[.int .i64 a0_0, .int .i64 a0_1, .slice A0_2 l0_2.length c0_2], .slice A1 l1.length c1] rfl ?_; (with_reducible refine (impl_Sea_areShots.calls k a0_0 a0_1 _ _ l0_2 _ _ l1 t837 _ ?side1 ?side2 ?side3 ?side4 A5.out).mono ?_); (case side1 => repeat (first | exact (Kd.C_below HR0_2.out HB.out) | (with_reducible refine Kd.C_alloc ?_ _) | (with_reducible refine Kd.C_drewN ?_ _) | (with_reducible refine Kd.C_drew ?_))); (case side2 => exact HC0_2.out); (case side3 => repeat (first | exact (Kd.C_below HR1.out HB.out) | (with_reducible refine Kd.C_alloc ?_ _) | (with_reducible refine Kd.C_drewN ?_ _) | (with_reducible refine Kd.C_drew ?_))); (case side4 => exact HC1.out); rintro e w11 ⟨rfl, hb⟩; refine ⟨_, rfl, ?_⟩; have n0_ := Aside0.mk (blk_below (g := gb835) (o := .cells #[.int .i64 a0_0, .int .i64 a0_1, .slice A0_2 l0_2.length c0_2] 28 (0, 0)) (by (with_reducible repeat (first | refine blk_drewN ?_ _ | refine blk_drew ?_ | refine blk_alloc ?_ _)); exact BK835.out) hb); have n1_ := Aside0.mk (below_step (by repeat (first | (with_reducible first | exact HB.out | apply below_alloc | apply pw_below_drewN | apply below_drew1 | refine below_set ?_ GE835.out) | exact HB.out)) hb); clear BK835; clear HB; have BK835 := n0_; have HB := n1_; clear n0_ n1_; (try clear hb); (try clear hb2); (try clear hk); (try clear hi)) | ((with_reducible refine gate_dst (N := 12) rfl ?_); refine Kd.R_lit k70 _ 70 ?hg (N := 12) ?hd (xs := ([(⟨t837, 2⟩ : S70)] : List (S70))) (inner := [.bool t837, .int .i64 2]) (ok := fun _ => True) (okp := fun _ => True) ?hr ?hp (fun _ hk => hk) trivial (Below.refl _ _) (Nat.le_refl _) (by simp) ?_; (case hd => rfl); (case hg => rfl); (case hr => first | (go_simp; done) | (go_simp; rfl)); (case hp => exact (Reps.c2 (show Kd.M k70 _ _ _ (⟨t837, 2⟩ : S70) [.bool t837, .int .i64 2] from (k70_mkM _ _ _ (⟨t837, 2⟩ : S70) )) (Reps.none _ _))); intro v839 w12 ho13 hb hg_ hnew_; clear hg_ hnew_; (first | rw [← Ny838.out] at ho13 | (simp only [Int.reduceToNat] at ho13; rw [← Ny838.out] at ho13)); have n0_ := Aside0.mk (Kd.R_lower ho13 (below_size (by repeat (first | (with_reducible first | exact HB.out | apply below_alloc | apply pw_below_drewN | apply below_drew1 | refine below_set ?_ GE835.out) | exact HB.out)))); have n1_ := Aside0.mk (blk_below (g := gb835) (o := .cells #[.int .i64 a0_0, .int .i64 a0_1, .slice A0_2 l0_2.length c0_2] 28 (0, 0)) (by (with_reducible repeat (first | refine blk_drewN ?_ _ | refine blk_drew ?_ | refine blk_alloc ?_ _)); exact BK835.out) hb); have n2_ := Aside0.mk (below_step (by repeat (first | (with_reducible first | exact HB.out | apply below_alloc | apply pw_below_drewN | apply below_drew1 | refine below_set ?_ GE835.out) | exact HB.out)) hb); clear BK835; clear HB; have HO840 := n0_; have BK835 := n1_; have HB := n2_; clear n0_ n1_ n2_; clear hb ho13; obtain ⟨Ao14, co14, eo14⟩ := Kd.R_slice HO840.out; subst eo14) | ((with_reducible refine gate_callee (f := 58) rfl ?_); refine goesA_ (some 13) rfl rfl Try.func58 (by kernel_rfl) rfl #[.slice Ao14 y838.length co14] rfl ?_; (with_reducible refine (impl_first.calls k _ _ y838 t841 _ ?side1 ?side2 A6.out).mono ?_); (case side1 => repeat (first | exact (Kd.R_reads' HO840.out).2.2 | (with_reducible refine Kd.C_alloc ?_ _) | (with_reducible refine Kd.C_drewN ?_ _) | (with_reducible refine Kd.C_drew ?_))); (case side2 => exact (Kd.R_reads' HO840.out).2.1); rintro e w15 ⟨rfl, hb⟩; refine ⟨_, rfl, ?_⟩; have n0_ := Aside0.mk (Kd.R_below (by (with_reducible repeat (first | apply Kd.R_alloc | apply Kd.R_drewN | apply Kd.R_drew)); exact HO840.out) hb); have n1_ := Aside0.mk (blk_below (g := gb835) (o := .cells #[.int .i64 a0_0, .int .i64 a0_1, .slice A0_2 l0_2.length c0_2] 28 (0, 0)) (by (with_reducible repeat (first | refine blk_drewN ?_ _ | refine blk_drew ?_ | refine blk_alloc ?_ _)); exact BK835.out) hb); have n2_ := Aside0.mk (below_step (by repeat (first | (with_reducible first | exact HB.out | apply below_alloc | apply pw_below_drewN | apply below_drew1 | refine below_set ?_ GE835.out) | exact HB.out)) hb); clear HO840; clear BK835; clear HB; have HO840 := n0_; have BK835 := n1_; have HB := n2_; clear n0_ n1_ n2_; (try clear hb); (try clear hb2); (try clear hk); (try clear hi)))
  go_ret
  exact ⟨by first | rfl | (simp [errW_none, errW_some] <;> rfl) | (simp [*, errW_none, errW_some] <;> rfl), by repeat (first | (with_reducible first | exact HB.out | apply below_alloc | apply pw_below_drewN | apply below_drew1 | refine below_set ?_ GE835.out) | exact HB.out)⟩
 ·replace c4 := Bool.eq_false_iff.mpr c4
  subst c4
  have H1 : (some 1) = some r := by rw [if_neg (show ¬ (false = true) by decide)] at H; exact H
  clear H
  have H := H1
  clear H1
  obtain rfl := Option.some.inj H
  go_enter Try.func89, Try.ntmps89
  go_wp2_with (first | ((with_reducible refine gate_dst (N := 2) rfl ?_); refine box_event ?hg (N := 2) ?hd (cs := #[.int .i64 a0_0, .int .i64 a0_1, .slice A0_2 l0_2.length c0_2]) (t := 28) ?hr ?_; (case hd => rfl); (case hg => rfl); (case hr => first | (go_simp; done) | (go_simp; rfl)); intro gb835 hg w16 hbox hb; have n0_ := Aside0.mk (below_step hb_ hb); have n1_ := Aside0.mk (hbox); have n2_ := Aside0.mk ((by rw [hg]; exact (below_size hb_) : w.heap.size ≤ gb835)); have n3_ := Aside0.mk ((by rw [hg]; exact (below_size hb_) : w.heap.size ≤ gb835)); clear HB; have HB := n0_; have BK835 := n1_; have GW835 := n2_; have GE835 := n3_; clear n0_ n1_ n2_ n3_; clear hb hbox hg; have hcz17_0 : w16.cell? ⟨gb835, 0, none⟩ = some (.int .i64 a0_0) := (blk_cell BK835.out 0).trans rfl; have hcz17_1 : w16.cell? ⟨gb835, 1, none⟩ = some (.int .i64 a0_1) := (blk_cell BK835.out 1).trans rfl; have hcz17_2 : w16.cell? ⟨gb835, 2, none⟩ = some (.slice A0_2 l0_2.length c0_2) := (blk_cell BK835.out 2).trans rfl; have hfz17_0 := blk_frozen BK835.out 0; have hfz17_1 := blk_frozen BK835.out 1; have hfz17_2 := blk_frozen BK835.out 2) | ((with_reducible refine gate_callee (f := 59) rfl ?_); refine goesA_ (some 6) rfl rfl Try.func59 (by kernel_rfl) rfl #[.agg #[.int .i64 a0_0, .int .i64 a0_1, .slice A0_2 l0_2.length c0_2]] rfl ?_; (with_reducible refine (impl_IsSea.calls k a0_0 a0_1 _ _ l0_2 false _ ?side1 ?side2 A3.out).mono ?_); (case side1 => repeat (first | exact (Kd.C_below HR0_2.out HB.out) | (with_reducible refine Kd.C_alloc ?_ _) | (with_reducible refine Kd.C_drewN ?_ _) | (with_reducible refine Kd.C_drew ?_))); (case side2 => exact HC0_2.out); rintro e w18 ⟨rfl, hb⟩; refine ⟨_, rfl, ?_⟩; have n0_ := Aside0.mk (blk_below (g := gb835) (o := .cells #[.int .i64 a0_0, .int .i64 a0_1, .slice A0_2 l0_2.length c0_2] 28 (0, 0)) (by (with_reducible repeat (first | refine blk_drewN ?_ _ | refine blk_drew ?_ | refine blk_alloc ?_ _)); exact BK835.out) hb); have n1_ := Aside0.mk (below_step (by repeat (first | (with_reducible first | exact HB.out | apply below_alloc | apply pw_below_drewN | apply below_drew1 | refine below_set ?_ GE835.out) | exact HB.out)) hb); clear BK835; clear HB; have BK835 := n0_; have HB := n1_; clear n0_ n1_; (try clear hb); (try clear hb2); (try clear hk); (try clear hi)))
  go_ret
  exact ⟨by first | rfl | (simp [errW_none, errW_some] <;> rfl) | (simp [*, errW_none, errW_some] <;> rfl), by repeat (first | (with_reducible first | exact HB.out | apply below_alloc | apply pw_below_drewN | apply below_drew1 | refine below_set ?_ GE835.out) | exact HB.out)⟩
/-! ### impl_SharesOf: function 48 -/
def impl_SharesOf.f (k : Nat) (a0_0 : Int) (a0_1 : Int) (l0_2 : List Int) (l1 : List (S93)) : Option (List Int × Int) := (impl_shotsCode.f k a0_0 a0_1 l0_2 l1).bind fun t889 => (if t889 = 0 then ((impl_Sea_shares.f a0_0 a0_1 l0_2 l1).bind fun bt890 => (some (bt890.2, 0))) else (some (([] : List Int), t889)))
set_option maxHeartbeats 8000000 in
set_option maxRecDepth 100000 in
theorem impl_SharesOf.calls (k : Nat) (a0_0 : Int) (a0_1 : Int) (A0_2 : Option Addr) (c0_2 : Nat) (l0_2 : List Int) (A1 : Option Addr) (c1 : Nat) (l1 : List (S93)) (r1 : List Int) (r2 : Int) (w : World) (hr0_2 : Kd.C (Kd.int .i64) w A0_2 l0_2.length l0_2) (hc0_2 : l0_2.length ≤ c0_2) (hr1 : Kd.C k93 w A1 l1.length l1) (hc1 : l1.length ≤ c1) (h : impl_SharesOf.f k a0_0 a0_1 l0_2 l1 = some (r1, r2)) :
  Calls Try.prog 48 #[.agg #[.int .i64 a0_0, .int .i64 a0_1, .slice A0_2 l0_2.length c0_2], .slice A1 l1.length c1] w fun e w' => ∃ v0_ : Value, e = .returned (.tuple #[v0_, .int .i64 r2]) ∧ Kd.R (Kd.int .i64) 2 w' w.heap.size (fun _ => True) v0_ r1 ∧ Below w.heap.size w w' := by
 have hu28 := Try.underlying28
 have HR0_2 := Aside0.mk hr0_2
 have HC0_2 := Aside0.mk hc0_2
 clear hr0_2 hc0_2
 have HR1 := Aside0.mk hr1
 have HC1 := Aside0.mk hc1
 clear hr1 hc1
 have HB := Aside0.mk (Below.refl w.heap.size w)
 have H : ((impl_shotsCode.f k a0_0 a0_1 l0_2 l1).bind fun t889 => (if t889 = 0 then ((impl_Sea_shares.f a0_0 a0_1 l0_2 l1).bind fun bt890 => (some (bt890.2, 0))) else (some (([] : List Int), t889)))) = some (r1, r2) := h
 clear h
 replace H := Option.bind_eq_some_iff.mp H
 obtain ⟨t889, A30, H⟩ := H
 replace H : (if t889 = 0 then ((impl_Sea_shares.f a0_0 a0_1 l0_2 l1).bind fun bt890 => (some (bt890.2, 0))) else (some (([] : List Int), t889))) = some (r1, r2) := H
 have A3 := Aside0.mk A30
 clear A30
 by_cases c4 : t889 = 0
 ·rw [if_pos c4] at H
  have c4b0 : (t889 == 0) = true := beq_iff_eq.mpr c4
  have c4b1 : (t889 != 0) = false := bne_eq_false_iff_eq.mpr c4
  clear c4
  replace H := Option.bind_eq_some_iff.mp H
  obtain ⟨⟨t890, t891⟩, A50, H⟩ := H
  replace H : (some (t891, 0)) = some (r1, r2) := H
  have A5 := Aside0.mk A50
  clear A50
  simp only [Option.some.injEq, Prod.mk.injEq] at H
  obtain ⟨rfl, rfl⟩ := H
  go_enter Try.func48, Try.ntmps48
  go_wp2_with (first | ((with_reducible refine gate_dst (N := 2) rfl ?_); refine box_event ?hg (N := 2) ?hd (cs := #[.int .i64 a0_0, .int .i64 a0_1, .slice A0_2 l0_2.length c0_2]) (t := 28) ?hr ?_; (case hd => rfl); (case hg => rfl); (case hr => first | (go_simp; done) | (go_simp; rfl)); intro gb888 hg w6 hbox hb; have n0_ := Aside0.mk (below_step hb_ hb); have n1_ := Aside0.mk (hbox); have n2_ := Aside0.mk ((by rw [hg]; exact (below_size hb_) : w.heap.size ≤ gb888)); have n3_ := Aside0.mk ((by rw [hg]; exact (below_size hb_) : w.heap.size ≤ gb888)); clear HB; have HB := n0_; have BK888 := n1_; have GW888 := n2_; have GE888 := n3_; clear n0_ n1_ n2_ n3_; clear hb hbox hg; have hcz7_0 : w6.cell? ⟨gb888, 0, none⟩ = some (.int .i64 a0_0) := (blk_cell BK888.out 0).trans rfl; have hcz7_1 : w6.cell? ⟨gb888, 1, none⟩ = some (.int .i64 a0_1) := (blk_cell BK888.out 1).trans rfl; have hcz7_2 : w6.cell? ⟨gb888, 2, none⟩ = some (.slice A0_2 l0_2.length c0_2) := (blk_cell BK888.out 2).trans rfl; have hfz7_0 := blk_frozen BK888.out 0; have hfz7_1 := blk_frozen BK888.out 1; have hfz7_2 := blk_frozen BK888.out 2) | ((with_reducible refine gate_callee (f := 89) rfl ?_); refine goesA_ (some 11) rfl rfl Try.func89 (by kernel_rfl) rfl #[.agg #[.int .i64 a0_0, .int .i64 a0_1, .slice A0_2 l0_2.length c0_2], .slice A1 l1.length c1] rfl ?_; (with_reducible refine (impl_shotsCode.calls k a0_0 a0_1 _ _ l0_2 _ _ l1 t889 _ ?side1 ?side2 ?side3 ?side4 A3.out).mono ?_); (case side1 => repeat (first | exact (Kd.C_below HR0_2.out HB.out) | (with_reducible refine Kd.C_alloc ?_ _) | (with_reducible refine Kd.C_drewN ?_ _) | (with_reducible refine Kd.C_drew ?_))); (case side2 => exact HC0_2.out); (case side3 => repeat (first | exact (Kd.C_below HR1.out HB.out) | (with_reducible refine Kd.C_alloc ?_ _) | (with_reducible refine Kd.C_drewN ?_ _) | (with_reducible refine Kd.C_drew ?_))); (case side4 => exact HC1.out); rintro e w8 ⟨rfl, hb⟩; refine ⟨_, rfl, ?_⟩; have n0_ := Aside0.mk (blk_below (g := gb888) (o := .cells #[.int .i64 a0_0, .int .i64 a0_1, .slice A0_2 l0_2.length c0_2] 28 (0, 0)) (by (with_reducible repeat (first | refine blk_drewN ?_ _ | refine blk_drew ?_ | refine blk_alloc ?_ _)); exact BK888.out) hb); have n1_ := Aside0.mk (below_step (by repeat (first | (with_reducible first | exact HB.out | apply below_alloc | apply pw_below_drewN | apply below_drew1 | refine below_set ?_ GE888.out) | exact HB.out)) hb); clear BK888; clear HB; have BK888 := n0_; have HB := n1_; clear n0_ n1_; (try clear hb); (try clear hb2); (try clear hk); (try clear hi); have hcz9_0 : w8.cell? ⟨gb888, 0, none⟩ = some (.int .i64 a0_0) := (blk_cell BK888.out 0).trans rfl; have hcz9_1 : w8.cell? ⟨gb888, 1, none⟩ = some (.int .i64 a0_1) := (blk_cell BK888.out 1).trans rfl; have hcz9_2 : w8.cell? ⟨gb888, 2, none⟩ = some (.slice A0_2 l0_2.length c0_2) := (blk_cell BK888.out 2).trans rfl; have hfz9_0 := blk_frozen BK888.out 0; have hfz9_1 := blk_frozen BK888.out 1; have hfz9_2 := blk_frozen BK888.out 2) | ((with_reducible refine gate_callee (f := 90) rfl ?_); refine goesA_ (some 18) rfl rfl Try.func90 (by kernel_rfl) rfl #[.agg #[.int .i64 a0_0, .int .i64 a0_1, .slice A0_2 l0_2.length c0_2], .slice A1 l1.length c1] rfl ?_; (with_reducible refine (impl_Sea_shares.calls a0_0 a0_1 _ _ l0_2 _ _ l1 t890 t891 _ ?side1 ?side2 ?side3 ?side4 A5.out).mono ?_); (case side1 => repeat (first | exact (Kd.C_below HR0_2.out HB.out) | (with_reducible refine Kd.C_alloc ?_ _) | (with_reducible refine Kd.C_drewN ?_ _) | (with_reducible refine Kd.C_drew ?_))); (case side2 => exact HC0_2.out); (case side3 => repeat (first | exact (Kd.C_below HR1.out HB.out) | (with_reducible refine Kd.C_alloc ?_ _) | (with_reducible refine Kd.C_drewN ?_ _) | (with_reducible refine Kd.C_drew ?_))); (case side4 => exact HC1.out); rintro e w10 ⟨v892, rfl, ho0, hb⟩; refine ⟨_, rfl, ?_⟩; have n0_ := Aside0.mk (Kd.R_lower ho0 (below_size (by repeat (first | (with_reducible first | exact HB.out | apply below_alloc | apply pw_below_drewN | apply below_drew1 | refine below_set ?_ GE888.out) | exact HB.out)))); have n1_ := Aside0.mk (blk_below (g := gb888) (o := .cells #[.int .i64 a0_0, .int .i64 a0_1, .slice A0_2 l0_2.length c0_2] 28 (0, 0)) (by (with_reducible repeat (first | refine blk_drewN ?_ _ | refine blk_drew ?_ | refine blk_alloc ?_ _)); exact BK888.out) hb); have n2_ := Aside0.mk (below_step (by repeat (first | (with_reducible first | exact HB.out | apply below_alloc | apply pw_below_drewN | apply below_drew1 | refine below_set ?_ GE888.out) | exact HB.out)) hb); clear BK888; clear HB; have HO893 := n0_; have BK888 := n1_; have HB := n2_; clear n0_ n1_ n2_; (try clear hb); (try clear hb2); (try clear hk); (try clear hi); (try clear ho0)))
  go_ret2
  exact ⟨_, by first | rfl | (simp [errW_none, errW_some] <;> rfl) | (simp [*, errW_none, errW_some] <;> rfl), by (with_reducible repeat (first | apply Kd.R_alloc | apply Kd.R_drewN | apply Kd.R_drew)); exact HO893.out, by repeat (first | (with_reducible first | exact HB.out | apply below_alloc | apply pw_below_drewN | apply below_drew1 | refine below_set ?_ GE888.out) | exact HB.out)⟩
 ·rw [if_neg c4] at H
  have c4b0 : (t889 == 0) = false := beq_eq_false_iff_ne.mpr c4
  have c4b1 : (t889 != 0) = true := bne_iff_ne.mpr c4
  simp only [Option.some.injEq, Prod.mk.injEq] at H
  obtain ⟨rfl, rfl⟩ := H
  go_enter Try.func48, Try.ntmps48
  go_wp2_with (first | ((with_reducible refine gate_dst (N := 2) rfl ?_); refine box_event ?hg (N := 2) ?hd (cs := #[.int .i64 a0_0, .int .i64 a0_1, .slice A0_2 l0_2.length c0_2]) (t := 28) ?hr ?_; (case hd => rfl); (case hg => rfl); (case hr => first | (go_simp; done) | (go_simp; rfl)); intro gb888 hg w11 hbox hb; have n0_ := Aside0.mk (below_step hb_ hb); have n1_ := Aside0.mk (hbox); have n2_ := Aside0.mk ((by rw [hg]; exact (below_size hb_) : w.heap.size ≤ gb888)); have n3_ := Aside0.mk ((by rw [hg]; exact (below_size hb_) : w.heap.size ≤ gb888)); clear HB; have HB := n0_; have BK888 := n1_; have GW888 := n2_; have GE888 := n3_; clear n0_ n1_ n2_ n3_; clear hb hbox hg; have hcz12_0 : w11.cell? ⟨gb888, 0, none⟩ = some (.int .i64 a0_0) := (blk_cell BK888.out 0).trans rfl; have hcz12_1 : w11.cell? ⟨gb888, 1, none⟩ = some (.int .i64 a0_1) := (blk_cell BK888.out 1).trans rfl; have hcz12_2 : w11.cell? ⟨gb888, 2, none⟩ = some (.slice A0_2 l0_2.length c0_2) := (blk_cell BK888.out 2).trans rfl; have hfz12_0 := blk_frozen BK888.out 0; have hfz12_1 := blk_frozen BK888.out 1; have hfz12_2 := blk_frozen BK888.out 2) | ((with_reducible refine gate_callee (f := 89) rfl ?_); refine goesA_ (some 11) rfl rfl Try.func89 (by kernel_rfl) rfl #[.agg #[.int .i64 a0_0, .int .i64 a0_1, .slice A0_2 l0_2.length c0_2], .slice A1 l1.length c1] rfl ?_; (with_reducible refine (impl_shotsCode.calls k a0_0 a0_1 _ _ l0_2 _ _ l1 t889 _ ?side1 ?side2 ?side3 ?side4 A3.out).mono ?_); (case side1 => repeat (first | exact (Kd.C_below HR0_2.out HB.out) | (with_reducible refine Kd.C_alloc ?_ _) | (with_reducible refine Kd.C_drewN ?_ _) | (with_reducible refine Kd.C_drew ?_))); (case side2 => exact HC0_2.out); (case side3 => repeat (first | exact (Kd.C_below HR1.out HB.out) | (with_reducible refine Kd.C_alloc ?_ _) | (with_reducible refine Kd.C_drewN ?_ _) | (with_reducible refine Kd.C_drew ?_))); (case side4 => exact HC1.out); rintro e w13 ⟨rfl, hb⟩; refine ⟨_, rfl, ?_⟩; have n0_ := Aside0.mk (blk_below (g := gb888) (o := .cells #[.int .i64 a0_0, .int .i64 a0_1, .slice A0_2 l0_2.length c0_2] 28 (0, 0)) (by (with_reducible repeat (first | refine blk_drewN ?_ _ | refine blk_drew ?_ | refine blk_alloc ?_ _)); exact BK888.out) hb); have n1_ := Aside0.mk (below_step (by repeat (first | (with_reducible first | exact HB.out | apply below_alloc | apply pw_below_drewN | apply below_drew1 | refine below_set ?_ GE888.out) | exact HB.out)) hb); clear BK888; clear HB; have BK888 := n0_; have HB := n1_; clear n0_ n1_; (try clear hb); (try clear hb2); (try clear hk); (try clear hi)))
  go_ret2
  exact ⟨_, by first | rfl | (simp [errW_none, errW_some] <;> rfl) | (simp [*, errW_none, errW_some] <;> rfl), by first | exact Kd.R_nil _ _ _ _ _ | exact Kd.N_nil _ _ _ _ _ | exact Kd.V_nil _ _ _ _ _ | exact Kd.Q_nil _ _ _ _ _ | exact Kd.S_nil _ _ _ _ _, by repeat (first | (with_reducible first | exact HB.out | apply below_alloc | apply pw_below_drewN | apply below_drew1 | refine below_set ?_ GE888.out) | exact HB.out)⟩
/-! ### laws_markShotS: function 49 -/
def laws_markShotS.l0 : Nat → List (S93) → Int → Int → Option (Int × (List (S93)))
 | 0, _, _, _ => none
 | k + 1, x0, x1, x5 => if x5 < (x0.length : Int) then (if 0 ≤ x5 then ((some (x0.set (x5 : Int).toNat (⟨x1, (rd_T93 x0 x5).f1⟩ : S93) : List (S93))).bind fun y894 => (laws_markShotS.l0 k (y894.set (x5 : Int).toNat (⟨(rd_T93 y894 x5).f0, wrap64 (x1 + 1)⟩ : S93)) (wrap64 ((wrap64 (x1 + 1)) + 1)) (wrap64 (x5 + 1)))) else (none)) else (some (x1, x0))
def laws_markShotS.f (k : Nat) (l0 : List (S93)) (a1 : Int) : Option (Int × (List (S93))) := laws_markShotS.l0 k l0 a1 0
set_option maxHeartbeats 8000000 in
set_option maxRecDepth 100000 in
theorem laws_markShotS.calls (k : Nat) (P0_ : Nat → Prop) (u9000_ : Value) (l0 : List (S93)) (a1 : Int) (r1 : Int) (r2 : List (S93)) (w0 w : World) (hB : Below w0.heap.size w0 w) (ho0 : Kd.R k93 93 w w0.heap.size P0_ u9000_ l0) (h : laws_markShotS.f k l0 a1 = some (r1, r2)) :
  Calls Try.prog 49 #[u9000_, .int .i64 a1] w fun e w' => e = .returned (.int .i64 r1) ∧ Kd.R k93 93 w' w0.heap.size (fun k_ => (P0_ k_ ∨ w.heap.size ≤ k_)) u9000_ r2 ∧ Below w0.heap.size w0 w' ∧ Kept w w' (fun k_ => P0_ k_) := by
 have HO0 := Aside0.mk (show Kd.R k93 93 w w0.heap.size (fun k_ => (P0_ k_ ∨ w.heap.size ≤ k_)) u9000_ l0 from Kd.R_mono ho0 (fun k_ hk => (.inl hk)))
 have HK := Aside0.mk (Kept.refl w (fun k_ => P0_ k_))
 have HW0 := Aside0.mk hB.size
 have HB := Aside0.mk hB
 clear hB
 have H : (laws_markShotS.l0 k l0 a1 0) = some (r1, r2) := h
 clear h
 have H' := Aside0.mk H
 clear H
 go_enter Try.func49, Try.ntmps49
 go_wp2
 go_loopg [1, 5] k (fun kq v1 v5 w' => ∃ (x0_1 : List (S93)) (x1_1 : Int) (x5_1 : Int), v1 = .int .i64 x1_1 ∧ v5 = .int .i64 x5_1 ∧ Aside0 (laws_markShotS.l0 kq x0_1 x1_1 x5_1 = some (r1, r2)) ∧ Aside0 (kq ≤ k) ∧ Aside0 (Kd.R k93 93 w' w0.heap.size (fun k_ => (P0_ k_ ∨ w.heap.size ≤ k_)) u9000_ x0_1) ∧ Aside0 (Kept w w' (fun k_ => P0_ k_)) ∧ Aside0 (Below w0.heap.size w0 w'))
 case atStart => exact ⟨(l0), (a1), (0), (by first | rfl | (simp; done) | (simp [*]; done)), (by first | rfl | (simp; done) | (simp [*]; done)), H', ⟨Nat.le_refl _⟩, ⟨by (with_reducible repeat (first | apply Kd.R_alloc | apply Kd.R_drewN | apply Kd.R_drew)); exact HO0.out⟩, ⟨by repeat (first | (with_reducible first | exact HK.out | apply Kept.alloc | apply Kept.drewN | apply Kept.drew) | exact HK.out)⟩, ⟨by repeat (first | (with_reducible first | exact HB.out | apply below_alloc | apply pw_below_drewN | apply below_drew1) | exact HB.out)⟩⟩
 case round =>
  clear H'
  (try clear p2)
  obtain ⟨x0_1, x1_1, x5_1, rfl, rfl, HA, HK1, HO_0, HK, HB⟩ := hrel
  cases gk with
  | zero => exact absurd HA.out (by simp [laws_markShotS.l0])
  | succ k1 =>
   have H := HA.out
   clear HA
   simp only [laws_markShotS.l0] at H
   by_cases c3 : x5_1 < (x0_1.length : Int)
   ·rw [if_pos c3] at H
    have c3b0 : decide (x5_1 < (x0_1.length : Int)) = true := decide_eq_true c3
    clear c3
    by_cases c4 : 0 ≤ x5_1
    ·rw [if_pos c4] at H
     have c4b0 : decide (0 ≤ x5_1) = true := decide_eq_true c4
     clear c4
     obtain ⟨y894, hy894⟩ : ∃ y_ : List (S93), y_ = (x0_1.set (x5_1 : Int).toNat (⟨x1_1, (rd_T93 x0_1 x5_1).f1⟩ : S93)) := ⟨_, rfl⟩
     replace H : (laws_markShotS.l0 k1 (y894.set (x5_1 : Int).toNat (⟨(rd_T93 y894 x5_1).f0, wrap64 (x1_1 + 1)⟩ : S93)) (wrap64 ((wrap64 (x1_1 + 1)) + 1)) (wrap64 (x5_1 + 1))) = some (r1, r2) := by first | (rw [hy894]; with_reducible exact H) | (have H2_ := (Option.bind_some _ _).symm.trans H; rw [hy894]; with_reducible exact H2_) | (have H2_ := (Option.bind_some _ _).symm.trans H; with_reducible exact H2_) | with_reducible exact H | (rw [hy894]; exact H) | exact H
     have Ny894 := Aside0.mk hy894
     clear hy894
     obtain ⟨y895, hy895⟩ : ∃ y_ : List (S93), y_ = (y894.set (x5_1 : Int).toNat (⟨(rd_T93 y894 x5_1).f0, wrap64 (x1_1 + 1)⟩ : S93)) := ⟨_, rfl⟩
     replace H : (laws_markShotS.l0 k1 y895 (wrap64 ((wrap64 (x1_1 + 1)) + 1)) (wrap64 (x5_1 + 1))) = some (r1, r2) := by first | (rw [hy895]; with_reducible exact H) | (have H2_ := (Option.bind_some _ _).symm.trans H; rw [hy895]; with_reducible exact H2_) | (have H2_ := (Option.bind_some _ _).symm.trans H; with_reducible exact H2_) | with_reducible exact H | (rw [hy895]; exact H) | exact H
     have Ny895 := Aside0.mk hy895
     clear hy895
     have H' := Aside0.mk H
     clear H
     obtain ⟨Ao7, co7, eo7⟩ := Kd.R_slice HO_0.out
     subst eo7
     have p5 : 0 ≤ (x5_1 : Int) := oda
     have q5 : (x5_1 : Int) < ((x0_1.length : Int) : Int) := oda
     obtain ⟨go5, co5, eo5, gb5, gl5, cl5, HG5⟩ := Kd.R_form HO_0.out (by omega)
     (first | cases eo5 | (injection eo5 with ea_ en_ ec_; (first | subst ea_ | (injection ea_ with ea_; subst ea_)); subst ec_; clear en_))
     have GB5 := Aside0.mk gb5
     have GG5 := Aside0.mk HG5
     clear gb5 gl5 HG5
     have HMgo5 := Aside0.mk (show (P0_ go5 ∨ w.heap.size ≤ go5) from (HO_0.out.1 _ rfl))
     obtain ⟨ce5, hcl5, hM5, hcc5, hfr5⟩ := Kd.R_elem HO_0.out z93 (x5_1 : Int) p5 q5
     obtain rfl := k93_openM hM5
     have hx5_0 : wr.cell? ⟨go5, (x5_1 : Int).toNat * 2, none⟩ = some (.int .i64 ((rd_T93 x0_1 x5_1).f0)) := hcc5 0 _ rfl
     have hx5_1 : wr.cell? ⟨go5, (x5_1 : Int).toNat * 2 + 1, none⟩ = some (.int .i64 ((rd_T93 x0_1 x5_1).f1)) := hcc5 1 _ rfl
     have hf5_0 : wr.frozen? ⟨go5, (x5_1 : Int).toNat * 2, none⟩ = false := hfr5 0
     have hf5_1 : wr.frozen? ⟨go5, (x5_1 : Int).toNat * 2 + 1, none⟩ = false := hfr5 1
     (try clear hcl5); (try clear hcc5); (try clear hfr5); (try clear hM5)
     replace p5 := eq_true p5
     replace q5 := eq_true q5
     have HX8 := Aside0.mk (show Kd.R k93 93 wr w0.heap.size (fun k_ => (P0_ k_ ∨ w.heap.size ≤ k_)) (.slice (some ⟨go5, 0, none⟩) x0_1.length co7) x0_1 from (by (with_reducible repeat (first | apply Kd.R_alloc | apply Kd.R_drewN | apply Kd.R_drew)); exact HO_0.out))
     obtain ⟨ce8, hcl8, hM8, hcc8, hfr8⟩ := Kd.R_elem HX8.out z93 (x5_1 : Int) (oda) (by have h_ : (x5_1 : Int) < ((x0_1.length : Int) : Int) := oda; first | exact h_ | (have e_ := (Kd.R_reads' HO_0.out).1; omega) | simpa using h_)
     obtain rfl := k93_openM hM8
     have HP8 := Kd.R_seg HX8.out (x5_1 : Int) (oda) (by have h_ : (x5_1 : Int) < ((x0_1.length : Int) : Int) := oda; first | exact h_ | (have e_ := (Kd.R_reads' HO_0.out).1; omega) | simpa using h_) (seg := [.int .i64 x1_1]) (j := 0) hcl8 hcc8 (show 1 ≤ 2 from by decide) (x' := (⟨x1_1, (rd_T93 x0_1 x5_1).f1⟩ : S93)) (k93_mkM _ _ _ (⟨x1_1, (rd_T93 x0_1 x5_1).f1⟩ : S93) ) (fun _ hk => hk)
     have hx8_0 := hcc8 0 _ rfl
     (try simp only [show (k93).sz = 2 from rfl, Nat.mul_one, Nat.add_zero] at hx8_0)
     have hf8_0 := hfr8 0
     (try simp only [show (k93).sz = 2 from rfl, Nat.mul_one, Nat.add_zero] at hf8_0)
     (try clear hcl8); (try clear hcc8); (try clear hfr8); (try clear hM8)
     go_wp2_with (first | ((with_reducible refine gate_store (t := 2) (p := 16) rfl ?_); refine store_event (t := 2) (p := 16) (v := ?vo_w9) (w1 := (wr.setCell ⟨go5, (x5_1 : Int).toNat * 2, none⟩ (.int .i64 x1_1))) ?hg ?ho ?hn ?hr ?_; (case ho => rfl); (case hg => rfl); (case hn => rfl); (case hr => first | (go_simp; done) | (go_simp; rfl)); intro w9 hw; have hg : wr.grownBy w9 (some go5) := (by rw [hw]; exact HP8.2); have hp_ : Kd.R k93 93 w9 w0.heap.size (fun k_ => (P0_ k_ ∨ w.heap.size ≤ k_)) (.slice (some ⟨go5, 0, none⟩) x0_1.length co7) y894 := (by rw [hw, Ny894.out]; exact HP8.1); clear HP8; have n0_ := Aside0.mk (hp_); have n1_ := Aside0.mk ((by rw [hw]; exact below_set (HB.out) GB5.out : Below w0.heap.size w0 w9)); have n2_ := Aside0.mk (Kept.of_grown (S := (fun k_ => P0_ k_)) hg (by repeat (first | (with_reducible first | exact HK.out | apply Kept.alloc | apply Kept.drewN | apply Kept.drew) | exact HK.out)) (fun k_ e_ => (HO_0.out.1 k_ e_))); clear HO_0; clear HB; clear HK; have HO_0 := n0_; have HB := n1_; have HK := n2_; clear n0_ n1_ n2_; clear hg hw hp_; have p6 : 0 ≤ (x5_1 : Int) := oda; have q6 : (x5_1 : Int) < ((x0_1.length : Int) : Int) := oda; obtain ⟨ce6, hcl6, hM6, hcc6, hfr6⟩ := Kd.R_elem HO_0.out z93 (x5_1 : Int) p6 q6; obtain rfl := k93_openM hM6; have hx6_0 : w9.cell? ⟨go5, (x5_1 : Int).toNat * 2, none⟩ = some (.int .i64 ((rd_T93 y894 x5_1).f0)) := hcc6 0 _ rfl; have hx6_1 : w9.cell? ⟨go5, (x5_1 : Int).toNat * 2 + 1, none⟩ = some (.int .i64 ((rd_T93 y894 x5_1).f1)) := hcc6 1 _ rfl; have hf6_0 : w9.frozen? ⟨go5, (x5_1 : Int).toNat * 2, none⟩ = false := hfr6 0; have hf6_1 : w9.frozen? ⟨go5, (x5_1 : Int).toNat * 2 + 1, none⟩ = false := hfr6 1; (try clear hcl6); (try clear hcc6); (try clear hfr6); (try clear hM6); replace p6 := eq_true p6; replace q6 := eq_true q6; have HX10 := Aside0.mk (show Kd.R k93 93 w9 w0.heap.size (fun k_ => (P0_ k_ ∨ w.heap.size ≤ k_)) (.slice (some ⟨go5, 0, none⟩) x0_1.length co7) y894 from (by (with_reducible repeat (first | apply Kd.R_alloc | apply Kd.R_drewN | apply Kd.R_drew)); exact HO_0.out)); obtain ⟨ce10, hcl10, hM10, hcc10, hfr10⟩ := Kd.R_elem HX10.out z93 (x5_1 : Int) (oda) (by have h_ : (x5_1 : Int) < ((x0_1.length : Int) : Int) := oda; first | exact h_ | (have e_ := (Kd.R_reads' HO_0.out).1; omega) | simpa using h_); obtain rfl := k93_openM hM10; have HP10 := Kd.R_seg HX10.out (x5_1 : Int) (oda) (by have h_ : (x5_1 : Int) < ((x0_1.length : Int) : Int) := oda; first | exact h_ | (have e_ := (Kd.R_reads' HO_0.out).1; omega) | simpa using h_) (seg := [.int .i64 (wrap64 (x1_1 + 1))]) (j := 1) hcl10 hcc10 (show 2 ≤ 2 from by decide) (x' := (⟨(rd_T93 y894 x5_1).f0, wrap64 (x1_1 + 1)⟩ : S93)) (k93_mkM _ _ _ (⟨(rd_T93 y894 x5_1).f0, wrap64 (x1_1 + 1)⟩ : S93) ) (fun _ hk => hk); have hx10_1 := hcc10 1 _ rfl; (try simp only [show (k93).sz = 2 from rfl, Nat.mul_one, Nat.add_zero] at hx10_1); have hf10_1 := hfr10 1; (try simp only [show (k93).sz = 2 from rfl, Nat.mul_one, Nat.add_zero] at hf10_1); (try clear hcl10); (try clear hcc10); (try clear hfr10); (try clear hM10)) | ((with_reducible refine gate_store (t := 2) (p := 23) rfl ?_); refine store_event (t := 2) (p := 23) (v := ?vo_w11) (w1 := (w9.setCell ⟨go5, (x5_1 : Int).toNat * 2 + 1, none⟩ (.int .i64 (wrap64 (x1_1 + 1))))) ?hg ?ho ?hn ?hr ?_; (case ho => rfl); (case hg => rfl); (case hn => rfl); (case hr => first | (go_simp; done) | (go_simp; rfl)); intro w11 hw; have hg : w9.grownBy w11 (some go5) := (by rw [hw]; exact HP10.2); have hp_ : Kd.R k93 93 w11 w0.heap.size (fun k_ => (P0_ k_ ∨ w.heap.size ≤ k_)) (.slice (some ⟨go5, 0, none⟩) x0_1.length co7) y895 := (by rw [hw, Ny895.out]; exact HP10.1); clear HP10; have n0_ := Aside0.mk (hp_); have n1_ := Aside0.mk ((by rw [hw]; exact below_set (HB.out) GB5.out : Below w0.heap.size w0 w11)); have n2_ := Aside0.mk (Kept.of_grown (S := (fun k_ => P0_ k_)) hg (by repeat (first | (with_reducible first | exact HK.out | apply Kept.alloc | apply Kept.drewN | apply Kept.drew) | exact HK.out)) (fun k_ e_ => (HO_0.out.1 k_ e_))); clear HO_0; clear HB; clear HK; have HO_0 := n0_; have HB := n1_; have HK := n2_; clear n0_ n1_ n2_; clear hg hw hp_))
     go_roundg k1
     case measure => have := HK1.out; omega
     case rel => exact ⟨(y895), (wrap64 ((wrap64 (x1_1 + 1)) + 1)), (wrap64 (x5_1 + 1)), (by first | rfl | (simp; done) | (simp [*]; done)), (by first | rfl | (simp; done) | (simp [*]; done)), H', ⟨by have := HK1.out; omega⟩, ⟨by (with_reducible repeat (first | apply Kd.R_alloc | apply Kd.R_drewN | apply Kd.R_drew)); exact HO_0.out⟩, ⟨by repeat (first | (with_reducible first | exact HK.out | apply Kept.alloc | apply Kept.drewN | apply Kept.drew) | exact HK.out)⟩, ⟨by repeat (first | (with_reducible first | exact HB.out | apply below_alloc | apply pw_below_drewN | apply below_drew1) | exact HB.out)⟩⟩
    ·rw [if_neg c4] at H
     exact absurd H (by simp)
   ·rw [if_neg c3] at H
    have c3b0 : decide (x5_1 < (x0_1.length : Int)) = false := decide_eq_false c3
    clear c3
    simp only [Option.some.injEq, Prod.mk.injEq] at H
    obtain ⟨rfl, rfl⟩ := H
    obtain ⟨Ao12, co12, eo12⟩ := Kd.R_slice HO_0.out
    subst eo12
    go_wp2
    go_ret
    exact ⟨by first | rfl | (simp [errW_none, errW_some] <;> rfl) | (simp [*, errW_none, errW_some] <;> rfl), by (with_reducible repeat (first | apply Kd.R_alloc | apply Kd.R_drewN | apply Kd.R_drew)); exact HO_0.out, by repeat (first | (with_reducible first | exact HB.out | apply below_alloc | apply pw_below_drewN | apply below_drew1) | exact HB.out), by repeat (first | (with_reducible first | exact HK.out | apply Kept.alloc | apply Kept.drewN | apply Kept.drew) | exact HK.out)⟩

end Go.Proofs.Ytiancdhpdjmacaa.F
