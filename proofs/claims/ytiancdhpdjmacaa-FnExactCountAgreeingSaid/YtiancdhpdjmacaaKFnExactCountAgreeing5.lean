-- written by the session's program xp.py over the kit's print program, and by hand; texts joined by pack.py
import Derived.Test.YtiancdhpdjmacaaKFnExactCountAgreeing4
namespace Go.Proofs.Ytiancdhpdjmacaa.F
open Go.RowKit Go.Proofs.YtiancdhpdjmacaaW.PrintWords Go.Proofs.YtiancdhpdjmacaaW.PrintLast Go.Proofs.YtiancdhpdjmacaaW.PrintMore
attribute [local go_sem] max2_int min2_int max_two min_two max_three min_three max_four min_four   -- for this text's walks alone
set_option linter.unusedVariables false
set_option linter.unusedSimpArgs false

/-! ### impl_Sea_shares: function 90 -/
-- EXTERNAL: by hand
-- impl_Sea_cells impl_Sea_eachFleet
-- EachOk ShI share_ok agreeing fleetsOf seaV_nat sea_ships sharesV_nil
def shotsIn (T : List S93) : Bool := T.all fun x => decide (0 ≤ x.f0) && decide (x.f0 ≤ 24)
theorem shotsIn_sea {T : List S93} (h : shotsIn T = true) : SeaCells (T.map fun x => x.f0) := fun x hx => by
  obtain ⟨y, hy, rfl⟩ := List.mem_map.1 hx
  have := List.all_eq_true.1 h y hy
  simpa using this
def impl_Sea_shares.f (a0_0 a0_1 : Int) (l0_2 : List Int) (l1 : List S93) : Option (Int × List Int) := if seaV a0_0 a0_1 l0_2 = true ∧ shotsIn l1 = true ∧ l1.length ≤ 1048576 then some (((agreeing (fleetsOf a0_0 a0_1 l0_2) l1).length : Int), sharesV (a0_0.toNat * a0_1.toNat) (agreeing (fleetsOf a0_0 a0_1 l0_2) l1)) else none
theorem blk_types_ne {W : World} {g g' t t' : Nat} {cs cs' : Array Value} (h : W.heap[g]? = some (.cells cs t (0, 0))) (h' : W.heap[g']? = some (.cells cs' t' (0, 0))) (ht : t ≠ t') : g ≠ g' := fun e => by
  subst e
  rw [h] at h'
  injection h' with h'
  injection h' with _ h2
  exact ht h2
theorem row_ne {W : World} {g t base go n co : Nat} {cs : Array Value} {ok : Nat → Prop} {xs : List Int} (h : W.heap[g]? = some (.cells cs t (0, 0))) (ho : Kd.R (Kd.int .i64) 2 W base ok (.slice (some ⟨go, 0, none⟩) n co) xs) (ht : 2 ≠ t) : g ≠ go := fun e => Kd.R_ne ho h ht (by rw [e]; rfl)
theorem share_start {w W : World} {g3 ga gb go co N : Nat} {A3 : Option Addr} {c3 : Nat} {T : List S93} (h3 : W.heap[g3]? = some (.cells #[.slice A3 T.length c3] 55 (0, 0))) (hC : W.heap[gb]? = some (.cells #[.slice none 0 0] 22 (0, 0))) (hA : W.heap[ga]? = some (.cells #[.int .i64 0] 2 (0, 0)))
    (ho : Kd.R (Kd.int .i64) 2 W w.heap.size (fun _ => True) (.slice (some ⟨go, 0, none⟩) N co) (sharesV N [])) (hB : Below w.heap.size w W) (hne : ShNe w g3 ga gb go) (hz : w.heap.size ≤ gb) : ShI w g3 ga gb go co A3 c3 T N [] (W.setCell ⟨gb, 0, none⟩ (.slice (some ⟨go, 0, none⟩) N co)) where
  below := below_set hB hz
  b3 := blk_far (p := ⟨gb, 0, none⟩) h3 (blk_types_ne h3 hC (by decide)) _
  bb := blk_put hC 0 _ rfl
  ba := blk_far (p := ⟨gb, 0, none⟩) hA (fun e => hne.ab e.symm) _
  row := Kd.R_mono (Kd.R_far (p := ⟨gb, 0, none⟩) (Kd.R_tight rfl ho) (fun k hk e => by subst e; injection hk with hk; exact hne.ob hk) _) (fun k hk => by injection hk)
theorem share_each (W0 H0 : Nat) (ships : List Int) (A2 : Option Addr) (c2 : Nat) (hw : 1 ≤ W0 ∧ W0 ≤ 5) (hh : 1 ≤ H0 ∧ H0 ≤ 5) (hsz : 1 ≤ ships.length ∧ ships.length ≤ 3) (hsin : ∀ j : Nat, j < ships.length → inW (rd ships (j : Int)) 1 5 = true) (hsc : ships.length ≤ c2)
    {w W : World} {g3 ga gb go co : Nat} {A3 : Option Addr} {c3 : Nat} {T : List S93} (hTl : T.length ≤ 1048576) (hTs : SeaCells (T.map fun x => x.f0)) (hne : ShNe w g3 ga gb go) (hT : Kd.C k93 w A3 T.length T) (hTc : T.length ≤ c3) (hR : Kd.C (Kd.int .i64) w A2 ships.length ships) {N : Nat} (hN : W0 * H0 = N) (hS : ShI w g3 ga gb go co A3 c3 T N [] W) :
    Calls Try.prog 65 #[.agg #[.int .i64 (W0 : Int), .int .i64 (H0 : Int), .slice A2 ships.length c2], .func (.func 112) #[] #[.pointer (some ⟨g3, 0, none⟩), .pointer (some ⟨ga, 0, none⟩), .pointer (some ⟨gb, 0, none⟩)]] W fun e w' => e = .returned (.tuple #[]) ∧ ShI w g3 ga gb go co A3 c3 T N (agreeing (fleetsFrom W0 H0 ships ships.length []) T) w' := by
  subst hN
  have eg112 : ∀ args w, (callFunc 112 args).run Try.prog w = .ok (.enter 112 args) w := enters_of Try.func112 (by kernel_rfl) rfl
  have hpl : ∀ j, (placeOf W0 H0 ships j).length ≤ 100 := fun j => placeOf_len hw.2 hh.2 ships j
  have hfl : (fleetsFrom W0 H0 ships ships.length []).length ≤ 1000000 := by
    refine Nat.le_trans (fleets_len W0 H0 ships hpl ships.length []) ?_
    exact Nat.le_trans (Nat.pow_le_pow_right (by omega) hsz.2) (by simp)
  have hclr : Clear (fun k => k = ga ∨ k = go) W A2 ships := by
    refine ⟨Kd.C_below hR hS.below, fun h0 a ha => ?_⟩
    subst ha
    obtain ⟨b, e, hcb⟩ := Kd.at_int hR 0 (by omega) (by omega)
    injection e with e
    subst e
    have h1 := World.block_lt_of_cell? _ _ hcb
    rw [add_block] at h1
    exact ⟨Nat.lt_of_lt_of_le h1 hS.below.size, fun h => by have := hne.za; have := hne.zo; rcases h with h | h <;> omega⟩
  refine (impl_Sea_eachFleet.does W0 H0 ships A2 c2 112 #[.pointer (some ⟨g3, 0, none⟩), .pointer (some ⟨ga, 0, none⟩), .pointer (some ⟨gb, 0, none⟩)] (ShareI w g3 ga gb go co A3 c3 T (W0 * H0) (fleetsFrom W0 H0 ships ships.length [])) 0 eg112 (share_ok hw hh hsz.2 hsin hTl hTs hne hT hTc hfl) hw hh hsz hsin hsc hpl W (Nat.zero_le _) (fun k => k = ga ∨ k = go) ⟨rfl, hS⟩ hclr).mono ?_
  rintro e w' ⟨rfl, M', hi, hf⟩
  have hi2 := hi.2
  rw [List.take_length] at hi2
  exact ⟨rfl, hi2⟩
def impl_Sea_shares.T1 : Bool × List (List Nat × List Nat) := (true, [([], []), ([0], [0]), ([1, 1], [1]), ([], []), ([], []), ([3, 1, 3, 4], [3]), ([4, 2, 5, 0, 1, 2, 3, 4, 5], [2, 4])])
def impl_Sea_shares.B1 : List Nat := [0, 1, 3, 0, 0, 27, 63]
theorem impl_Sea_shares.tab1 : rtab .any (opsOf Try.f90 1) = impl_Sea_shares.T1 := by kernel_rfl
theorem impl_Sea_shares.bits1 : waitsOk impl_Sea_shares.T1.2 impl_Sea_shares.B1 = true := by kernel_rfl
theorem wrap_nat_ {N : Nat} (h : N ≤ 25) : wrap64 (N : Int) = (N : Int) := by unfold wrap64; omega
set_option maxHeartbeats 16000000 in
set_option maxRecDepth 100000 in
theorem impl_Sea_shares.calls (a0_0 a0_1 : Int) (A2 : Option Addr) (c2 : Nat) (ships : List Int) (A3 : Option Addr) (c3 : Nat) (T : List S93) (r1 : Int) (r2 : List Int) (w : World) (hr0_2 : Kd.C (Kd.int .i64) w A2 ships.length ships) (hc0_2 : ships.length ≤ c2) (hr1 : Kd.C k93 w A3 T.length T) (hc1 : T.length ≤ c3) (h : impl_Sea_shares.f a0_0 a0_1 ships T = some (r1, r2)) :
    Calls Try.prog 90 #[.agg #[.int .i64 a0_0, .int .i64 a0_1, .slice A2 ships.length c2], .slice A3 T.length c3] w fun e w' => ∃ v1_ : Value, e = .returned (.tuple #[.int .i64 r1, v1_]) ∧ Kd.R (Kd.int .i64) 2 w' w.heap.size (fun _ => True) v1_ r2 ∧ Below w.heap.size w w' := by
  unfold impl_Sea_shares.f at h
  split at h
  case isFalse => cases h
  rename_i hs
  simp only [Option.some.injEq, Prod.mk.injEq] at h
  obtain ⟨hr1_, hr2_⟩ := h
  obtain ⟨hs, hsi, hTl⟩ := hs
  obtain ⟨⟨W0, rfl, hw1, hw5⟩, ⟨H0, rfl, hh1, hh5⟩, hs1, hs3⟩ := seaV_nat hs
  have HW := Aside0.mk (And.intro hw1 hw5)
  have HH := Aside0.mk (And.intro hh1 hh5)
  have HSz := Aside0.mk (And.intro hs1 hs3)
  have HSI := Aside0.mk (sea_ships hs)
  have HTl := Aside0.mk hTl
  have HTs := Aside0.mk (shotsIn_sea hsi)
  have HT0 := Aside0.mk hr1
  have HTc := Aside0.mk hc1
  have HSh := Aside0.mk hr0_2
  have HC2 := Aside0.mk hc0_2
  unfold fleetsOf at hr1_ hr2_
  simp only [Int.toNat_natCast] at hr1_ hr2_
  obtain ⟨D, hD⟩ : ∃ D, agreeing (fleetsFrom W0 H0 ships ships.length []) T = D := ⟨_, rfl⟩
  rw [hD] at hr1_ hr2_
  have HDn := Aside0.mk hD
  obtain ⟨N, hN⟩ : ∃ N, W0 * H0 = N := ⟨_, rfl⟩
  rw [hN] at hr2_
  have HNN0 := Aside0.mk hN
  have hN25 : N ≤ 25 := by rw [← hN]; exact cells_le hw5 hh5
  have HNp := Aside0.mk (show 0 < N by rw [← hN]; exact Nat.mul_pos (by omega) (by omega))
  have HN0 := Aside0.mk (show (0 : Int) ≤ (N : Int) by omega)
  have HN8 := Aside0.mk (show ((N : Int)).toNat * 8 ≤ 281474976710656 by rw [Int.toNat_natCast]; omega)
  have HCel := Aside0.mk (show impl_Sea_cells.f (W0 : Int) (H0 : Int) ships = some (N : Int) by
    unfold impl_Sea_cells.f
    rw [show (W0 : Int) * (H0 : Int) = (N : Int) by rw [← hN, Int.natCast_mul], wrap_nat_ hN25])
  subst hr1_ hr2_
  have hu28 := Try.underlying28
  clear hr0_2 hc0_2 hr1 hc1 hs hsi hTl hw1 hw5 hh1 hh5 hs1 hs3 hD hN hN25
  go_enter Try.func90, Try.ntmps90
  go_wp2_with (first | ((with_reducible refine gate_dst (N := 2) rfl ?_); refine box_event ?hg (N := 2) ?hd (cs := #[.int .i64 (W0 : Int), .int .i64 (H0 : Int), .slice A2 ships.length c2]) (t := 28) ?hr ?_; (case hd => rfl); (case hg => rfl); (case hr => first | (go_simp; done) | (go_simp; rfl)); intro g2 hg2 w1 hbox hb; have H2 := Aside0.mk hbox; have HB := Aside0.mk hb; clear hbox hb hg2) | ((with_reducible refine gate_dst (N := 3) rfl ?_); refine box_event ?hg (N := 3) ?hd (cs := #[.slice A3 T.length c3]) (t := 55) ?hr ?_; (case hd => rfl); (case hg => rfl); (case hr => first | (go_simp; done) | (go_simp; rfl)); intro g3 hg3 w2 hbox hb; have H3 := Aside0.mk hbox; have n1_ := Aside0.mk (blk_below H2.out hb); have n2_ := Aside0.mk (below_step HB.out hb); clear H2 HB hbox hb hg3; have H2 := n1_; have HB := n2_; clear n1_ n2_))
  have u2_ := Aside0.mk (blk_drew H2.out)
  have u3_ := Aside0.mk (blk_drew H3.out)
  have uB_ := Aside0.mk (below_drew1 HB.out)
  clear H2 H3 HB
  have H2 := u2_
  have H3 := u3_
  have HB := uB_
  clear u2_ u3_ uB_
  refine start_ (n := 7) (S := fun w' => w'.cell? ⟨g2, 0, none⟩ = some (.int .i64 (W0 : Int)) ∧ w'.cell? ⟨g2, 1, none⟩ = some (.int .i64 (H0 : Int)) ∧ w'.cell? ⟨g2, 2, none⟩ = some (.slice A2 ships.length c2)) (ds := [6]) #[false, false, false, false, false, false, false] (by kernel_rfl) rfl rfl ⟨(blk_cell H2.out 0).trans rfl, (blk_cell H2.out 1).trans rfl, (blk_cell H2.out 2).trans rfl⟩ (fun hHeld => ?_)
  refine with_tabW impl_Sea_shares.tab1 impl_Sea_shares.bits1 (fun HT_ HW_ => ?_)
  generalize hq_ : w2.drew = wd_ at H2 H3 HB hHeld ⊢
  clear hq_
  refine take_ (i := 0) (N := some 8) (v := ?_) (a' := ?_) (flg_ 7 1) rfl rfl (take_ofW HT_.out HW_.out (by kernel_rfl)) (fun _ _ _ h => h) (Or.inl ⟨by rfl, ?_⟩) hHeld ?_ ?_
  rotate_left
  · rintro w' ⟨s0_, s1_, s2_⟩
    go_simp
    with_reducible rfl
  rotate_left
  · simp only [Act.put, sz_, s0_, s1_, i64_w, i32_w]
    rfl
  all_goals first
    | (refine three_ (l := #[true, false, false, false, false, false, false]) (i := 1) (j := 3) (k := 4) (Ni := some 9) (Nj := some 6) (Nk := some 7) #[true, true, false, false, false, false, false] #[true, false, false, true, false, false, false] #[true, false, false, false, true, false, false] rfl rfl rfl rfl rfl rfl (three_of HT_.out (by kernel_rfl)) (by decide) (by decide) (by decide) (fun K hK => ?_) (fun K hK => ?_) (fun K hK => ?_))
  all_goals first
    | (refine goes_ (N := some 9) Try.func73 (by kernel_rfl) rfl #[.agg #[.int .i64 (W0 : Int), .int .i64 (H0 : Int), .slice A2 ships.length c2]] (by rfl) rfl rfl (by (try simp only [List.map_toArray, List.map_cons, List.map_nil]); first | done | rfl) ?_; refine (impl_Sea_cells.calls (W0 : Int) (H0 : Int) A2 c2 ships (N : Int) wd_ (Kd.C_below HSh.out HB.out) HC2.out HCel.out).mono ?_; rintro e wd_ ⟨rfl, hb⟩; refine ⟨_, rfl, ?_⟩; (try (have u_ := Aside0.mk (blk_below H2.out hb); clear H2; have H2 := u_; clear u_)); (try (have u_ := Aside0.mk (blk_below H3.out hb); clear H3; have H3 := u_; clear u_)); (try (have u_ := Aside0.mk (below_step HB.out hb); clear HB; have HB := u_; clear u_)); (try (have u_ := Aside0.mk (Kd.R_below HO.out hb); clear HO; have HO := u_; clear u_)); (try (have u_ := Aside0.mk (blk_below HA.out hb); clear HA; have HA := u_; clear u_)); (try (have u_ := Aside0.mk (blk_below HC.out hb); clear HC; have HC := u_; clear u_)); clear hb; refine hK.out _ _ ⟨(blk_cell H2.out 0).trans rfl, (blk_cell H2.out 1).trans rfl, (blk_cell H2.out 2).trans rfl⟩ (fun hHeld => ?_); clear hK K; refine norm_ (a' := ?_) ?_ ?_; rotate_left; (· (show Act.put _ (some 9) _ = _; simp only [Act.put, sz_, s0_, s1_, i64_w, i32_w]; rfl)))
    | (refine value_ (N := some 6) (w1 := wd_.alloc (.cells #[.int .i64 0] 2 (0, 0))) (v := .pointer (some ⟨wd_.heap.size, 0, none⟩)) (by rfl) rfl ?_ ?_; (· (go_simp; (try rfl))); have hb := below_alloc (Below.refl wd_.heap.size wd_) (.cells #[.int .i64 0] 2 (0, 0)); have hnw := blk_new wd_ (.cells #[.int .i64 0] 2 (0, 0)); have hz := below_size HB.out; (try have HNN := Aside0.mk (show wd_.heap.size ≠ go by have := Kd.R_lt HO.out go rfl; omega)); (try (have u_ := Aside0.mk (blk_below H2.out hb); clear H2; have H2 := u_; clear u_)); (try (have u_ := Aside0.mk (blk_below H3.out hb); clear H3; have H3 := u_; clear u_)); (try (have u_ := Aside0.mk (below_step HB.out hb); clear HB; have HB := u_; clear u_)); (try (have u_ := Aside0.mk (Kd.R_below HO.out hb); clear HO; have HO := u_; clear u_)); (try (have u_ := Aside0.mk (blk_below HA.out hb); clear HA; have HA := u_; clear u_)); (try (have u_ := Aside0.mk (blk_below HC.out hb); clear HC; have HC := u_; clear u_)); clear hb; generalize wd_.alloc (.cells #[.int .i64 0] 2 (0, 0)) = wx_ at *; generalize wd_.heap.size = ga at *; have HA := Aside0.mk hnw; have HZA := Aside0.mk hz; clear hnw hz; refine hK.out _ _ ⟨(blk_cell H2.out 0).trans rfl, (blk_cell H2.out 1).trans rfl, (blk_cell H2.out 2).trans rfl⟩ (fun hHeld => ?_); clear hK K; refine norm_ (a' := ?_) ?_ ?_; rotate_left; (· (show Act.put _ (some 6) _ = _; simp only [Act.put, sz_, s0_, s1_, i64_w, i32_w]; rfl)); (try clear wd_); generalize wx_ = wd_ at *)
    | (refine value_ (N := some 7) (w1 := wd_.alloc (.cells #[.slice none 0 0] 22 (0, 0))) (v := .pointer (some ⟨wd_.heap.size, 0, none⟩)) (by rfl) rfl ?_ ?_; (· (go_simp; (try rfl))); have hb := below_alloc (Below.refl wd_.heap.size wd_) (.cells #[.slice none 0 0] 22 (0, 0)); have hnw := blk_new wd_ (.cells #[.slice none 0 0] 22 (0, 0)); have hz := below_size HB.out; (try (have u_ := Aside0.mk (blk_below H2.out hb); clear H2; have H2 := u_; clear u_)); (try (have u_ := Aside0.mk (blk_below H3.out hb); clear H3; have H3 := u_; clear u_)); (try (have u_ := Aside0.mk (below_step HB.out hb); clear HB; have HB := u_; clear u_)); (try (have u_ := Aside0.mk (Kd.R_below HO.out hb); clear HO; have HO := u_; clear u_)); (try (have u_ := Aside0.mk (blk_below HA.out hb); clear HA; have HA := u_; clear u_)); (try (have u_ := Aside0.mk (blk_below HC.out hb); clear HC; have HC := u_; clear u_)); clear hb; generalize wd_.alloc (.cells #[.slice none 0 0] 22 (0, 0)) = wx_ at *; generalize wd_.heap.size = gb at *; have HC := Aside0.mk hnw; have HZB := Aside0.mk hz; clear hnw hz; refine hK.out _ _ ⟨(blk_cell H2.out 0).trans rfl, (blk_cell H2.out 1).trans rfl, (blk_cell H2.out 2).trans rfl⟩ (fun hHeld => ?_); clear hK K; refine norm_ (a' := ?_) ?_ ?_; rotate_left; (· (show Act.put _ (some 7) _ = _; simp only [Act.put, sz_, s0_, s1_, i64_w, i32_w]; rfl)); (try clear wd_); generalize wx_ = wd_ at *)
  all_goals first
    | (refine three_ (l := #[true, true, false, false, false, false, false]) (i := 2) (j := 3) (k := 4) (Ni := some 10) (Nj := some 6) (Nk := some 7) #[true, true, true, false, false, false, false] #[true, true, false, true, false, false, false] #[true, true, false, false, true, false, false] rfl rfl rfl rfl rfl rfl (three_of HT_.out (by kernel_rfl)) (by decide) (by decide) (by decide) (fun K hK => ?_) (fun K hK => ?_) (fun K hK => ?_))
    | (refine two_ (l := #[true, false, false, true, false, false, false]) (i := 1) (j := 4) (Ni := some 9) (Nj := some 7) #[true, true, false, true, false, false, false] #[true, false, false, true, true, false, false] rfl rfl rfl rfl (two_of HT_.out (by kernel_rfl)) (by decide) (by decide) (fun K hK => ?_) (fun K hK => ?_))
    | (refine two_ (l := #[true, false, false, false, true, false, false]) (i := 1) (j := 3) (Ni := some 9) (Nj := some 6) #[true, true, false, false, true, false, false] #[true, false, false, true, true, false, false] rfl rfl rfl rfl (two_of HT_.out (by kernel_rfl)) (by decide) (by decide) (fun K hK => ?_) (fun K hK => ?_))
  all_goals first
    | (refine goes_ (N := some 9) Try.func73 (by kernel_rfl) rfl #[.agg #[.int .i64 (W0 : Int), .int .i64 (H0 : Int), .slice A2 ships.length c2]] (by rfl) rfl rfl (by (try simp only [List.map_toArray, List.map_cons, List.map_nil]); first | done | rfl) ?_; refine (impl_Sea_cells.calls (W0 : Int) (H0 : Int) A2 c2 ships (N : Int) wd_ (Kd.C_below HSh.out HB.out) HC2.out HCel.out).mono ?_; rintro e wd_ ⟨rfl, hb⟩; refine ⟨_, rfl, ?_⟩; (try (have u_ := Aside0.mk (blk_below H2.out hb); clear H2; have H2 := u_; clear u_)); (try (have u_ := Aside0.mk (blk_below H3.out hb); clear H3; have H3 := u_; clear u_)); (try (have u_ := Aside0.mk (below_step HB.out hb); clear HB; have HB := u_; clear u_)); (try (have u_ := Aside0.mk (Kd.R_below HO.out hb); clear HO; have HO := u_; clear u_)); (try (have u_ := Aside0.mk (blk_below HA.out hb); clear HA; have HA := u_; clear u_)); (try (have u_ := Aside0.mk (blk_below HC.out hb); clear HC; have HC := u_; clear u_)); clear hb; refine hK.out _ _ ⟨(blk_cell H2.out 0).trans rfl, (blk_cell H2.out 1).trans rfl, (blk_cell H2.out 2).trans rfl⟩ (fun hHeld => ?_); clear hK K; refine norm_ (a' := ?_) ?_ ?_; rotate_left; (· (show Act.put _ (some 9) _ = _; simp only [Act.put, sz_, s0_, s1_, i64_w, i32_w]; rfl)))
    | (refine Kd.R_make_step (Kd.int .i64) _ 2 (by rfl) (N := 10) rfl 22 _ _ rfl (N : Int) rfl rfl Try.underlying22 (.int .i64 0) 8 info2 rfl (by decide) (by omega) 0 (ok := fun _ => True) (okp := fun _ => True) rfl (fun _ hk => hk) trivial HN0.out HN8.out (Below.refl _ _) (Nat.le_refl _) ?_; intro v10 wd_ ho hb hg_ hnew_; clear hg_ hnew_; rw [Int.toNat_natCast, ← sharesV_nil] at ho; obtain ⟨go, co, e10, hgo_, _, _⟩ := Kd.R_form ho (by rw [sharesV_len]; exact HNp.out); rw [sharesV_len] at e10; subst e10; (try have HNN := Aside0.mk (show ga ≠ go by have := blk_lt HA.out; omega)); have HZO := Aside0.mk (show w.heap.size ≤ go by have := below_size HB.out; omega); clear hgo_; have uO0_ := Aside0.mk (Kd.R_lower ho (below_size HB.out)); clear ho; (try (have u_ := Aside0.mk (blk_below H2.out hb); clear H2; have H2 := u_; clear u_)); (try (have u_ := Aside0.mk (blk_below H3.out hb); clear H3; have H3 := u_; clear u_)); (try (have u_ := Aside0.mk (below_step HB.out hb); clear HB; have HB := u_; clear u_)); (try (have u_ := Aside0.mk (Kd.R_below HO.out hb); clear HO; have HO := u_; clear u_)); (try (have u_ := Aside0.mk (blk_below HA.out hb); clear HA; have HA := u_; clear u_)); (try (have u_ := Aside0.mk (blk_below HC.out hb); clear HC; have HC := u_; clear u_)); clear hb; have HO := uO0_; clear uO0_; refine hK.out _ _ ⟨(blk_cell H2.out 0).trans rfl, (blk_cell H2.out 1).trans rfl, (blk_cell H2.out 2).trans rfl⟩ (fun hHeld => ?_); clear hK K; refine norm_ (a' := ?_) ?_ ?_; rotate_left; (· (show Act.put _ (some 10) _ = _; simp only [Act.put, sz_, s0_, s1_, i64_w, i32_w]; rfl)))
    | (refine value_ (N := some 6) (w1 := wd_.alloc (.cells #[.int .i64 0] 2 (0, 0))) (v := .pointer (some ⟨wd_.heap.size, 0, none⟩)) (by rfl) rfl ?_ ?_; (· (go_simp; (try rfl))); have hb := below_alloc (Below.refl wd_.heap.size wd_) (.cells #[.int .i64 0] 2 (0, 0)); have hnw := blk_new wd_ (.cells #[.int .i64 0] 2 (0, 0)); have hz := below_size HB.out; (try have HNN := Aside0.mk (show wd_.heap.size ≠ go by have := Kd.R_lt HO.out go rfl; omega)); (try (have u_ := Aside0.mk (blk_below H2.out hb); clear H2; have H2 := u_; clear u_)); (try (have u_ := Aside0.mk (blk_below H3.out hb); clear H3; have H3 := u_; clear u_)); (try (have u_ := Aside0.mk (below_step HB.out hb); clear HB; have HB := u_; clear u_)); (try (have u_ := Aside0.mk (Kd.R_below HO.out hb); clear HO; have HO := u_; clear u_)); (try (have u_ := Aside0.mk (blk_below HA.out hb); clear HA; have HA := u_; clear u_)); (try (have u_ := Aside0.mk (blk_below HC.out hb); clear HC; have HC := u_; clear u_)); clear hb; generalize wd_.alloc (.cells #[.int .i64 0] 2 (0, 0)) = wx_ at *; generalize wd_.heap.size = ga at *; have HA := Aside0.mk hnw; have HZA := Aside0.mk hz; clear hnw hz; refine hK.out _ _ ⟨(blk_cell H2.out 0).trans rfl, (blk_cell H2.out 1).trans rfl, (blk_cell H2.out 2).trans rfl⟩ (fun hHeld => ?_); clear hK K; refine norm_ (a' := ?_) ?_ ?_; rotate_left; (· (show Act.put _ (some 6) _ = _; simp only [Act.put, sz_, s0_, s1_, i64_w, i32_w]; rfl)); (try clear wd_); generalize wx_ = wd_ at *)
    | (refine value_ (N := some 7) (w1 := wd_.alloc (.cells #[.slice none 0 0] 22 (0, 0))) (v := .pointer (some ⟨wd_.heap.size, 0, none⟩)) (by rfl) rfl ?_ ?_; (· (go_simp; (try rfl))); have hb := below_alloc (Below.refl wd_.heap.size wd_) (.cells #[.slice none 0 0] 22 (0, 0)); have hnw := blk_new wd_ (.cells #[.slice none 0 0] 22 (0, 0)); have hz := below_size HB.out; (try (have u_ := Aside0.mk (blk_below H2.out hb); clear H2; have H2 := u_; clear u_)); (try (have u_ := Aside0.mk (blk_below H3.out hb); clear H3; have H3 := u_; clear u_)); (try (have u_ := Aside0.mk (below_step HB.out hb); clear HB; have HB := u_; clear u_)); (try (have u_ := Aside0.mk (Kd.R_below HO.out hb); clear HO; have HO := u_; clear u_)); (try (have u_ := Aside0.mk (blk_below HA.out hb); clear HA; have HA := u_; clear u_)); (try (have u_ := Aside0.mk (blk_below HC.out hb); clear HC; have HC := u_; clear u_)); clear hb; generalize wd_.alloc (.cells #[.slice none 0 0] 22 (0, 0)) = wx_ at *; generalize wd_.heap.size = gb at *; have HC := Aside0.mk hnw; have HZB := Aside0.mk hz; clear hnw hz; refine hK.out _ _ ⟨(blk_cell H2.out 0).trans rfl, (blk_cell H2.out 1).trans rfl, (blk_cell H2.out 2).trans rfl⟩ (fun hHeld => ?_); clear hK K; refine norm_ (a' := ?_) ?_ ?_; rotate_left; (· (show Act.put _ (some 7) _ = _; simp only [Act.put, sz_, s0_, s1_, i64_w, i32_w]; rfl)); (try clear wd_); generalize wx_ = wd_ at *)
  all_goals first
    | (refine two_ (l := #[true, true, true, false, false, false, false]) (i := 3) (j := 4) (Ni := some 6) (Nj := some 7) #[true, true, true, true, false, false, false] #[true, true, true, false, true, false, false] rfl rfl rfl rfl (two_of HT_.out (by kernel_rfl)) (by decide) (by decide) (fun K hK => ?_) (fun K hK => ?_))
    | (refine two_ (l := #[true, true, false, true, false, false, false]) (i := 2) (j := 4) (Ni := some 10) (Nj := some 7) #[true, true, true, true, false, false, false] #[true, true, false, true, true, false, false] rfl rfl rfl rfl (two_of HT_.out (by kernel_rfl)) (by decide) (by decide) (fun K hK => ?_) (fun K hK => ?_))
    | (refine two_ (l := #[true, true, false, false, true, false, false]) (i := 2) (j := 3) (Ni := some 10) (Nj := some 6) #[true, true, true, false, true, false, false] #[true, true, false, true, true, false, false] rfl rfl rfl rfl (two_of HT_.out (by kernel_rfl)) (by decide) (by decide) (fun K hK => ?_) (fun K hK => ?_))
    | (refine one_ (l := #[true, false, false, true, true, false, false]) (i := 1) (N := some 9) #[true, true, false, true, true, false, false] rfl rfl (one_of HT_.out (by kernel_rfl)) (by decide) (fun K hK => ?_))
  all_goals first
    | (refine goes_ (N := some 9) Try.func73 (by kernel_rfl) rfl #[.agg #[.int .i64 (W0 : Int), .int .i64 (H0 : Int), .slice A2 ships.length c2]] (by rfl) rfl rfl (by (try simp only [List.map_toArray, List.map_cons, List.map_nil]); first | done | rfl) ?_; refine (impl_Sea_cells.calls (W0 : Int) (H0 : Int) A2 c2 ships (N : Int) wd_ (Kd.C_below HSh.out HB.out) HC2.out HCel.out).mono ?_; rintro e wd_ ⟨rfl, hb⟩; refine ⟨_, rfl, ?_⟩; (try (have u_ := Aside0.mk (blk_below H2.out hb); clear H2; have H2 := u_; clear u_)); (try (have u_ := Aside0.mk (blk_below H3.out hb); clear H3; have H3 := u_; clear u_)); (try (have u_ := Aside0.mk (below_step HB.out hb); clear HB; have HB := u_; clear u_)); (try (have u_ := Aside0.mk (Kd.R_below HO.out hb); clear HO; have HO := u_; clear u_)); (try (have u_ := Aside0.mk (blk_below HA.out hb); clear HA; have HA := u_; clear u_)); (try (have u_ := Aside0.mk (blk_below HC.out hb); clear HC; have HC := u_; clear u_)); clear hb; refine hK.out _ _ ⟨(blk_cell H2.out 0).trans rfl, (blk_cell H2.out 1).trans rfl, (blk_cell H2.out 2).trans rfl⟩ (fun hHeld => ?_); clear hK K; refine norm_ (a' := ?_) ?_ ?_; rotate_left; (· (show Act.put _ (some 9) _ = _; simp only [Act.put, sz_, s0_, s1_, i64_w, i32_w]; rfl)))
    | (refine Kd.R_make_step (Kd.int .i64) _ 2 (by rfl) (N := 10) rfl 22 _ _ rfl (N : Int) rfl rfl Try.underlying22 (.int .i64 0) 8 info2 rfl (by decide) (by omega) 0 (ok := fun _ => True) (okp := fun _ => True) rfl (fun _ hk => hk) trivial HN0.out HN8.out (Below.refl _ _) (Nat.le_refl _) ?_; intro v10 wd_ ho hb hg_ hnew_; clear hg_ hnew_; rw [Int.toNat_natCast, ← sharesV_nil] at ho; obtain ⟨go, co, e10, hgo_, _, _⟩ := Kd.R_form ho (by rw [sharesV_len]; exact HNp.out); rw [sharesV_len] at e10; subst e10; (try have HNN := Aside0.mk (show ga ≠ go by have := blk_lt HA.out; omega)); have HZO := Aside0.mk (show w.heap.size ≤ go by have := below_size HB.out; omega); clear hgo_; have uO0_ := Aside0.mk (Kd.R_lower ho (below_size HB.out)); clear ho; (try (have u_ := Aside0.mk (blk_below H2.out hb); clear H2; have H2 := u_; clear u_)); (try (have u_ := Aside0.mk (blk_below H3.out hb); clear H3; have H3 := u_; clear u_)); (try (have u_ := Aside0.mk (below_step HB.out hb); clear HB; have HB := u_; clear u_)); (try (have u_ := Aside0.mk (Kd.R_below HO.out hb); clear HO; have HO := u_; clear u_)); (try (have u_ := Aside0.mk (blk_below HA.out hb); clear HA; have HA := u_; clear u_)); (try (have u_ := Aside0.mk (blk_below HC.out hb); clear HC; have HC := u_; clear u_)); clear hb; have HO := uO0_; clear uO0_; refine hK.out _ _ ⟨(blk_cell H2.out 0).trans rfl, (blk_cell H2.out 1).trans rfl, (blk_cell H2.out 2).trans rfl⟩ (fun hHeld => ?_); clear hK K; refine norm_ (a' := ?_) ?_ ?_; rotate_left; (· (show Act.put _ (some 10) _ = _; simp only [Act.put, sz_, s0_, s1_, i64_w, i32_w]; rfl)))
    | (refine value_ (N := some 6) (w1 := wd_.alloc (.cells #[.int .i64 0] 2 (0, 0))) (v := .pointer (some ⟨wd_.heap.size, 0, none⟩)) (by rfl) rfl ?_ ?_; (· (go_simp; (try rfl))); have hb := below_alloc (Below.refl wd_.heap.size wd_) (.cells #[.int .i64 0] 2 (0, 0)); have hnw := blk_new wd_ (.cells #[.int .i64 0] 2 (0, 0)); have hz := below_size HB.out; (try have HNN := Aside0.mk (show wd_.heap.size ≠ go by have := Kd.R_lt HO.out go rfl; omega)); (try (have u_ := Aside0.mk (blk_below H2.out hb); clear H2; have H2 := u_; clear u_)); (try (have u_ := Aside0.mk (blk_below H3.out hb); clear H3; have H3 := u_; clear u_)); (try (have u_ := Aside0.mk (below_step HB.out hb); clear HB; have HB := u_; clear u_)); (try (have u_ := Aside0.mk (Kd.R_below HO.out hb); clear HO; have HO := u_; clear u_)); (try (have u_ := Aside0.mk (blk_below HA.out hb); clear HA; have HA := u_; clear u_)); (try (have u_ := Aside0.mk (blk_below HC.out hb); clear HC; have HC := u_; clear u_)); clear hb; generalize wd_.alloc (.cells #[.int .i64 0] 2 (0, 0)) = wx_ at *; generalize wd_.heap.size = ga at *; have HA := Aside0.mk hnw; have HZA := Aside0.mk hz; clear hnw hz; refine hK.out _ _ ⟨(blk_cell H2.out 0).trans rfl, (blk_cell H2.out 1).trans rfl, (blk_cell H2.out 2).trans rfl⟩ (fun hHeld => ?_); clear hK K; refine norm_ (a' := ?_) ?_ ?_; rotate_left; (· (show Act.put _ (some 6) _ = _; simp only [Act.put, sz_, s0_, s1_, i64_w, i32_w]; rfl)); (try clear wd_); generalize wx_ = wd_ at *)
    | (refine value_ (N := some 7) (w1 := wd_.alloc (.cells #[.slice none 0 0] 22 (0, 0))) (v := .pointer (some ⟨wd_.heap.size, 0, none⟩)) (by rfl) rfl ?_ ?_; (· (go_simp; (try rfl))); have hb := below_alloc (Below.refl wd_.heap.size wd_) (.cells #[.slice none 0 0] 22 (0, 0)); have hnw := blk_new wd_ (.cells #[.slice none 0 0] 22 (0, 0)); have hz := below_size HB.out; (try (have u_ := Aside0.mk (blk_below H2.out hb); clear H2; have H2 := u_; clear u_)); (try (have u_ := Aside0.mk (blk_below H3.out hb); clear H3; have H3 := u_; clear u_)); (try (have u_ := Aside0.mk (below_step HB.out hb); clear HB; have HB := u_; clear u_)); (try (have u_ := Aside0.mk (Kd.R_below HO.out hb); clear HO; have HO := u_; clear u_)); (try (have u_ := Aside0.mk (blk_below HA.out hb); clear HA; have HA := u_; clear u_)); (try (have u_ := Aside0.mk (blk_below HC.out hb); clear HC; have HC := u_; clear u_)); clear hb; generalize wd_.alloc (.cells #[.slice none 0 0] 22 (0, 0)) = wx_ at *; generalize wd_.heap.size = gb at *; have HC := Aside0.mk hnw; have HZB := Aside0.mk hz; clear hnw hz; refine hK.out _ _ ⟨(blk_cell H2.out 0).trans rfl, (blk_cell H2.out 1).trans rfl, (blk_cell H2.out 2).trans rfl⟩ (fun hHeld => ?_); clear hK K; refine norm_ (a' := ?_) ?_ ?_; rotate_left; (· (show Act.put _ (some 7) _ = _; simp only [Act.put, sz_, s0_, s1_, i64_w, i32_w]; rfl)); (try clear wd_); generalize wx_ = wd_ at *)
  all_goals first
    | (refine one_ (l := #[true, true, true, true, false, false, false]) (i := 4) (N := some 7) #[true, true, true, true, true, false, false] rfl rfl (one_of HT_.out (by kernel_rfl)) (by decide) (fun K hK => ?_))
    | (refine one_ (l := #[true, true, true, false, true, false, false]) (i := 3) (N := some 6) #[true, true, true, true, true, false, false] rfl rfl (one_of HT_.out (by kernel_rfl)) (by decide) (fun K hK => ?_))
    | (refine two_ (l := #[true, true, false, true, true, false, false]) (i := 2) (j := 5) (Ni := some 10) (Nj := none) #[true, true, true, true, true, false, false] #[true, true, false, true, true, true, false] rfl rfl rfl rfl (two_of HT_.out (by kernel_rfl)) (by decide) (by decide) (fun K hK => ?_) (fun K hK => ?_))
  all_goals first
    | (refine Kd.R_make_step (Kd.int .i64) _ 2 (by rfl) (N := 10) rfl 22 _ _ rfl (N : Int) rfl rfl Try.underlying22 (.int .i64 0) 8 info2 rfl (by decide) (by omega) 0 (ok := fun _ => True) (okp := fun _ => True) rfl (fun _ hk => hk) trivial HN0.out HN8.out (Below.refl _ _) (Nat.le_refl _) ?_; intro v10 wd_ ho hb hg_ hnew_; clear hg_ hnew_; rw [Int.toNat_natCast, ← sharesV_nil] at ho; obtain ⟨go, co, e10, hgo_, _, _⟩ := Kd.R_form ho (by rw [sharesV_len]; exact HNp.out); rw [sharesV_len] at e10; subst e10; (try have HNN := Aside0.mk (show ga ≠ go by have := blk_lt HA.out; omega)); have HZO := Aside0.mk (show w.heap.size ≤ go by have := below_size HB.out; omega); clear hgo_; have uO0_ := Aside0.mk (Kd.R_lower ho (below_size HB.out)); clear ho; (try (have u_ := Aside0.mk (blk_below H2.out hb); clear H2; have H2 := u_; clear u_)); (try (have u_ := Aside0.mk (blk_below H3.out hb); clear H3; have H3 := u_; clear u_)); (try (have u_ := Aside0.mk (below_step HB.out hb); clear HB; have HB := u_; clear u_)); (try (have u_ := Aside0.mk (Kd.R_below HO.out hb); clear HO; have HO := u_; clear u_)); (try (have u_ := Aside0.mk (blk_below HA.out hb); clear HA; have HA := u_; clear u_)); (try (have u_ := Aside0.mk (blk_below HC.out hb); clear HC; have HC := u_; clear u_)); clear hb; have HO := uO0_; clear uO0_; refine hK.out _ _ ⟨(blk_cell H2.out 0).trans rfl, (blk_cell H2.out 1).trans rfl, (blk_cell H2.out 2).trans rfl⟩ (fun hHeld => ?_); clear hK K; refine norm_ (a' := ?_) ?_ ?_; rotate_left; (· (show Act.put _ (some 10) _ = _; simp only [Act.put, sz_, s0_, s1_, i64_w, i32_w]; rfl)))
    | (refine value_ (N := some 6) (w1 := wd_.alloc (.cells #[.int .i64 0] 2 (0, 0))) (v := .pointer (some ⟨wd_.heap.size, 0, none⟩)) (by rfl) rfl ?_ ?_; (· (go_simp; (try rfl))); have hb := below_alloc (Below.refl wd_.heap.size wd_) (.cells #[.int .i64 0] 2 (0, 0)); have hnw := blk_new wd_ (.cells #[.int .i64 0] 2 (0, 0)); have hz := below_size HB.out; (try have HNN := Aside0.mk (show wd_.heap.size ≠ go by have := Kd.R_lt HO.out go rfl; omega)); (try (have u_ := Aside0.mk (blk_below H2.out hb); clear H2; have H2 := u_; clear u_)); (try (have u_ := Aside0.mk (blk_below H3.out hb); clear H3; have H3 := u_; clear u_)); (try (have u_ := Aside0.mk (below_step HB.out hb); clear HB; have HB := u_; clear u_)); (try (have u_ := Aside0.mk (Kd.R_below HO.out hb); clear HO; have HO := u_; clear u_)); (try (have u_ := Aside0.mk (blk_below HA.out hb); clear HA; have HA := u_; clear u_)); (try (have u_ := Aside0.mk (blk_below HC.out hb); clear HC; have HC := u_; clear u_)); clear hb; generalize wd_.alloc (.cells #[.int .i64 0] 2 (0, 0)) = wx_ at *; generalize wd_.heap.size = ga at *; have HA := Aside0.mk hnw; have HZA := Aside0.mk hz; clear hnw hz; refine hK.out _ _ ⟨(blk_cell H2.out 0).trans rfl, (blk_cell H2.out 1).trans rfl, (blk_cell H2.out 2).trans rfl⟩ (fun hHeld => ?_); clear hK K; refine norm_ (a' := ?_) ?_ ?_; rotate_left; (· (show Act.put _ (some 6) _ = _; simp only [Act.put, sz_, s0_, s1_, i64_w, i32_w]; rfl)); (try clear wd_); generalize wx_ = wd_ at *)
    | (refine value_ (N := some 7) (w1 := wd_.alloc (.cells #[.slice none 0 0] 22 (0, 0))) (v := .pointer (some ⟨wd_.heap.size, 0, none⟩)) (by rfl) rfl ?_ ?_; (· (go_simp; (try rfl))); have hb := below_alloc (Below.refl wd_.heap.size wd_) (.cells #[.slice none 0 0] 22 (0, 0)); have hnw := blk_new wd_ (.cells #[.slice none 0 0] 22 (0, 0)); have hz := below_size HB.out; (try (have u_ := Aside0.mk (blk_below H2.out hb); clear H2; have H2 := u_; clear u_)); (try (have u_ := Aside0.mk (blk_below H3.out hb); clear H3; have H3 := u_; clear u_)); (try (have u_ := Aside0.mk (below_step HB.out hb); clear HB; have HB := u_; clear u_)); (try (have u_ := Aside0.mk (Kd.R_below HO.out hb); clear HO; have HO := u_; clear u_)); (try (have u_ := Aside0.mk (blk_below HA.out hb); clear HA; have HA := u_; clear u_)); (try (have u_ := Aside0.mk (blk_below HC.out hb); clear HC; have HC := u_; clear u_)); clear hb; generalize wd_.alloc (.cells #[.slice none 0 0] 22 (0, 0)) = wx_ at *; generalize wd_.heap.size = gb at *; have HC := Aside0.mk hnw; have HZB := Aside0.mk hz; clear hnw hz; refine hK.out _ _ ⟨(blk_cell H2.out 0).trans rfl, (blk_cell H2.out 1).trans rfl, (blk_cell H2.out 2).trans rfl⟩ (fun hHeld => ?_); clear hK K; refine norm_ (a' := ?_) ?_ ?_; rotate_left; (· (show Act.put _ (some 7) _ = _; simp only [Act.put, sz_, s0_, s1_, i64_w, i32_w]; rfl)); (try clear wd_); generalize wx_ = wd_ at *)
    | (have hfA := blk_frozen HA.out 0; have hcA := (blk_cell HA.out 0).trans rfl; refine skip_ (w1 := wd_.setCell ⟨ga, 0, none⟩ (.int .i64 0)) (by rfl) rfl ?_ ?_; (· (go_simp; (try rfl))); (try (have u_ := Aside0.mk (blk_far (p := ⟨ga, 0, none⟩) H2.out (blk_types_ne H2.out HA.out (by decide)) (.int .i64 0)); clear H2; have H2 := u_; clear u_)); (try (have u_ := Aside0.mk (blk_far (p := ⟨ga, 0, none⟩) H3.out (blk_types_ne H3.out HA.out (by decide)) (.int .i64 0)); clear H3; have H3 := u_; clear u_)); have uB_ := Aside0.mk (below_set HB.out HZA.out : Below w.heap.size w (wd_.setCell ⟨ga, 0, none⟩ (.int .i64 0))); clear HB; have HB := uB_; clear uB_; (try (have u_ := Aside0.mk (blk_far (p := ⟨ga, 0, none⟩) HC.out (blk_types_ne HC.out HA.out (by decide)) (.int .i64 0)); clear HC; have HC := u_; clear u_)); (try (have u_ := Aside0.mk (Kd.R_mono (ok' := fun _ => True) (Kd.R_far (p := ⟨ga, 0, none⟩) (Kd.R_far1 HO.out rfl (g := ga) (fun e => HNN.out (by injection e))) (fun k hk => hk.2) (.int .i64 0)) (fun _ _ => trivial)); clear HO; have HO := u_; clear u_)); (try (have u_ := Aside0.mk (blk_put HA.out 0 (.int .i64 0) rfl); clear HA; have HA := u_; clear u_)); clear hfA hcA; generalize wd_.setCell ⟨ga, 0, none⟩ (.int .i64 0) = wd_ at *; refine hK.out _ _ ⟨(blk_cell H2.out 0).trans rfl, (blk_cell H2.out 1).trans rfl, (blk_cell H2.out 2).trans rfl⟩ (fun hHeld => ?_); clear hK K)
  all_goals first
    | (refine one_ (l := #[true, true, true, true, true, false, false]) (i := 5) (N := none) #[true, true, true, true, true, true, false] rfl rfl (one_of HT_.out (by kernel_rfl)) (by decide) (fun K hK => ?_))
    | (refine one_ (l := #[true, true, false, true, true, true, false]) (i := 2) (N := some 10) #[true, true, true, true, true, true, false] rfl rfl (one_of HT_.out (by kernel_rfl)) (by decide) (fun K hK => ?_))
  all_goals first
    | (refine Kd.R_make_step (Kd.int .i64) _ 2 (by rfl) (N := 10) rfl 22 _ _ rfl (N : Int) rfl rfl Try.underlying22 (.int .i64 0) 8 info2 rfl (by decide) (by omega) 0 (ok := fun _ => True) (okp := fun _ => True) rfl (fun _ hk => hk) trivial HN0.out HN8.out (Below.refl _ _) (Nat.le_refl _) ?_; intro v10 wd_ ho hb hg_ hnew_; clear hg_ hnew_; rw [Int.toNat_natCast, ← sharesV_nil] at ho; obtain ⟨go, co, e10, hgo_, _, _⟩ := Kd.R_form ho (by rw [sharesV_len]; exact HNp.out); rw [sharesV_len] at e10; subst e10; (try have HNN := Aside0.mk (show ga ≠ go by have := blk_lt HA.out; omega)); have HZO := Aside0.mk (show w.heap.size ≤ go by have := below_size HB.out; omega); clear hgo_; have uO0_ := Aside0.mk (Kd.R_lower ho (below_size HB.out)); clear ho; (try (have u_ := Aside0.mk (blk_below H2.out hb); clear H2; have H2 := u_; clear u_)); (try (have u_ := Aside0.mk (blk_below H3.out hb); clear H3; have H3 := u_; clear u_)); (try (have u_ := Aside0.mk (below_step HB.out hb); clear HB; have HB := u_; clear u_)); (try (have u_ := Aside0.mk (Kd.R_below HO.out hb); clear HO; have HO := u_; clear u_)); (try (have u_ := Aside0.mk (blk_below HA.out hb); clear HA; have HA := u_; clear u_)); (try (have u_ := Aside0.mk (blk_below HC.out hb); clear HC; have HC := u_; clear u_)); clear hb; have HO := uO0_; clear uO0_; refine hK.out _ _ ⟨(blk_cell H2.out 0).trans rfl, (blk_cell H2.out 1).trans rfl, (blk_cell H2.out 2).trans rfl⟩ (fun hHeld => ?_); clear hK K; refine norm_ (a' := ?_) ?_ ?_; rotate_left; (· (show Act.put _ (some 10) _ = _; simp only [Act.put, sz_, s0_, s1_, i64_w, i32_w]; rfl)))
    | (have hfA := blk_frozen HA.out 0; have hcA := (blk_cell HA.out 0).trans rfl; refine skip_ (w1 := wd_.setCell ⟨ga, 0, none⟩ (.int .i64 0)) (by rfl) rfl ?_ ?_; (· (go_simp; (try rfl))); (try (have u_ := Aside0.mk (blk_far (p := ⟨ga, 0, none⟩) H2.out (blk_types_ne H2.out HA.out (by decide)) (.int .i64 0)); clear H2; have H2 := u_; clear u_)); (try (have u_ := Aside0.mk (blk_far (p := ⟨ga, 0, none⟩) H3.out (blk_types_ne H3.out HA.out (by decide)) (.int .i64 0)); clear H3; have H3 := u_; clear u_)); have uB_ := Aside0.mk (below_set HB.out HZA.out : Below w.heap.size w (wd_.setCell ⟨ga, 0, none⟩ (.int .i64 0))); clear HB; have HB := uB_; clear uB_; (try (have u_ := Aside0.mk (blk_far (p := ⟨ga, 0, none⟩) HC.out (blk_types_ne HC.out HA.out (by decide)) (.int .i64 0)); clear HC; have HC := u_; clear u_)); (try (have u_ := Aside0.mk (Kd.R_mono (ok' := fun _ => True) (Kd.R_far (p := ⟨ga, 0, none⟩) (Kd.R_far1 HO.out rfl (g := ga) (fun e => HNN.out (by injection e))) (fun k hk => hk.2) (.int .i64 0)) (fun _ _ => trivial)); clear HO; have HO := u_; clear u_)); (try (have u_ := Aside0.mk (blk_put HA.out 0 (.int .i64 0) rfl); clear HA; have HA := u_; clear u_)); clear hfA hcA; generalize wd_.setCell ⟨ga, 0, none⟩ (.int .i64 0) = wd_ at *; refine hK.out _ _ ⟨(blk_cell H2.out 0).trans rfl, (blk_cell H2.out 1).trans rfl, (blk_cell H2.out 2).trans rfl⟩ (fun hHeld => ?_); clear hK K)
  all_goals generalize wd_ = wz_ at H2 H3 HB HO HA HC hHeld ⊢
  all_goals
    refine last_ (i := 6) (N := none) (flg_ 7 127) rfl rfl (one_of HT_.out (by kernel_rfl)) (by decide) (fun K hK => ?_)
    have hfC := blk_frozen HC.out 0
    have hcC := (blk_cell HC.out 0).trans rfl
    refine skip_ (w1 := World.setCell wz_ ⟨gb, 0, none⟩ (.slice (some ⟨go, 0, none⟩) N co)) (by rfl) rfl ?_ ?_
    · go_simp
      (try rfl)
    refine hK.out _ _ ?_
    clear hK K hfC hcC hHeld
    have HNE := Aside0.mk (show ShNe w g3 ga gb go from ⟨blk_types_ne H3.out HA.out (by decide), (blk_types_ne HC.out HA.out (by decide)), HNN.out, row_ne H3.out HO.out (by decide), row_ne HC.out HO.out (by decide), HZA.out, HZO.out⟩)
    have uS_ := Aside0.mk (share_start H3.out HC.out HA.out HO.out HB.out HNE.out HZB.out)
    have u2_ := Aside0.mk (blk_far (p := ⟨gb, 0, none⟩) H2.out (blk_types_ne H2.out HC.out (by decide)) (.slice (some ⟨go, 0, none⟩) N co))
    clear H2 H3 HA HC HO HB
    have H2 := u2_
    have HS := uS_
    clear u2_ uS_
    generalize World.setCell wz_ ⟨gb, 0, none⟩ (.slice (some ⟨go, 0, none⟩) N co) = w7 at H2 HS ⊢
    refine done_ (done_of HT_.out (by kernel_rfl)) ?_
    have hs0 := (blk_cell H2.out 0).trans rfl
    have hs1 := (blk_cell H2.out 1).trans rfl
    have hs2 := (blk_cell H2.out 2).trans rfl
    go_wp2_with (first | (go_at_call 65; refine (share_each W0 H0 ships A2 c2 HW.out HH.out HSz.out HSI.out HC2.out HTl.out HTs.out HNE.out HT0.out HTc.out HSh.out HNN0.out HS.out).mono ?_; rintro e w8 ⟨rfl, hE⟩; rw [HDn.out] at hE; have HE := Aside0.mk hE; clear hE H2 HS hs0 hs1 hs2; have ha_ := (blk_cell HE.out.ba 0).trans rfl; have hb_ := (blk_cell HE.out.bb 0).trans rfl))
    go_quiet (fail)
    (try go_wp2_with fail)
    go_ret2
    have hbq := pw_below_drewN (Below.refl w8.heap.size w8) nq
    exact ⟨_, rfl, Kd.R_mono (Kd.R_below HE.out.row hbq) (fun _ _ => trivial), below_step HE.out.below hbq⟩
-- With no bound the reference's fleets are all that agree: the value that the contracts name. (for 64)
-- goV_all fleetsOf
def goFleets (w h : Int) (l : List Int) (T : List S93) (most : Int) : List (List Int) := goV w.toNat h.toNat l T l.length [] 0 most
theorem goFleets_all {w h : Int} {l : List Int} (hs : seaV w h l = true) (T : List S93) : goFleets w h l T (-1) = (fleetsOf w h l).filter fun fl => agFrom fl 0 T := by
  obtain ⟨⟨W0, rfl, hw1, hw5⟩, ⟨H0, rfl, hh1, hh5⟩, _, _⟩ := seaV_nat hs
  unfold goFleets fleetsOf
  simp only [Int.toNat_natCast]
  exact goV_all ⟨hw1, hw5⟩ ⟨hh1, hh5⟩ l (sea_ships hs) T (-1) (by omega) l.length [] 0 (by simp) (used_zero [])
-- What the reference's list of fleets needs of the functions that it calls. (for 64)
-- specPlacements_ev specAgrees_ev goV
theorem go_env {W0 H0 : Nat} (hW : 1 ≤ W0 ∧ W0 ≤ 5) (hH : 1 ≤ H0 ∧ H0 ≤ 5) (ships : List Int) (hs3 : ships.length ≤ 3) (hin : ∀ j : Nat, j < ships.length → inW (rd ships (j : Int)) 1 5 = true) (T : List S93) (hT : T.length ≤ 1048576) (hc : SeaCells (T.map fun x => x.f0)) :
    (∀ j : Nat, j < ships.length → ∃ kp, spec_l09Placements.f kp (W0 : Int) (H0 : Int) ships (rd ships (j : Int)) = some (placeOf W0 H0 ships j)) ∧ ∀ list : List Int, list.length = ships.length → InPl W0 H0 ships list → ∃ ka, spec_l09Agrees.f ka list T = some (agFrom list 0 T) := by
  refine ⟨fun j hj => ?_, fun list hl hi => ?_⟩
  · obtain ⟨n, hn, h1, h5⟩ := inW_five (hin j hj)
    obtain ⟨K, hK⟩ := specPlacements_ev hW hH.2 ⟨h1, h5⟩ ships
    exact ⟨K, by rw [hn]; unfold placeOf; rw [hn, Int.toNat_natCast]; exact hK K (Nat.le_refl _)⟩
  · have hN : NumFleet list := fun x hx => by
      obtain ⟨j, hj, rfl⟩ := List.mem_iff_getElem.1 hx
      obtain ⟨n, hn, h1, h5⟩ := inW_five (hin j (by omega))
      have := hi j hj
      unfold placeOf at this
      rw [hn, Int.toNat_natCast] at this
      obtain ⟨m, e, _, h⟩ := placesOf_num hW.1 hW.2 hH.2 h1 _ this
      exact ⟨m, e, h⟩
    obtain ⟨K, hK⟩ := specAgrees_ev hN (by omega) T hT hc
    exact ⟨K, hK K (Nat.le_refl _)⟩
theorem fnil_ (w : World) (ok : Nat → Prop) (A : Option Addr) : Kd.F (Kd.int .i64) w ok A 0 [] := fun _ _ => ⟨rfl, Nat.zero_le _, fun hp => absurd hp (by simp)⟩
/-! ### spec_CountAgreeing: function 45 -/
-- EXTERNAL: by hand
-- spec_l09Shots spec_l09Go
-- goFleets go_env seaV_nat sea_ships shotsIn shotsIn_sea fnil_
def spec_CountAgreeing.f (k : Nat) (a0_0 a0_1 : Int) (l0_2 : List Int) (l1 : List S93) : Option (Int × Int) := (spec_l09Shots.f k a0_0 a0_1 l0_2 l1).bind fun c => if c = 0 then (if seaV a0_0 a0_1 l0_2 = true ∧ shotsIn l1 = true ∧ l1.length ≤ 1048576 then some (((goFleets a0_0 a0_1 l0_2 l1 (-1)).length : Int), 0) else none) else some (0, c)
set_option maxHeartbeats 4000000 in
set_option maxRecDepth 100000 in
theorem spec_CountAgreeing.calls (k : Nat) (a0_0 a0_1 : Int) (A0_2 : Option Addr) (c0_2 : Nat) (l0_2 : List Int) (A3 : Option Addr) (c3 : Nat) (T : List S93) (r1 r2 : Int) (w : World) (hr0_2 : Kd.C (Kd.int .i64) w A0_2 l0_2.length l0_2) (hc0_2 : l0_2.length ≤ c0_2) (hr1 : Kd.C k93 w A3 T.length T) (hc1 : T.length ≤ c3) (h : spec_CountAgreeing.f k a0_0 a0_1 l0_2 T = some (r1, r2)) :
    Calls Try.prog 45 #[.agg #[.int .i64 a0_0, .int .i64 a0_1, .slice A0_2 l0_2.length c0_2], .slice A3 T.length c3] w fun e w' => e = .returned (.tuple #[.int .i64 r1, .int .i64 r2]) ∧ Below w.heap.size w w' := by
  unfold spec_CountAgreeing.f at h
  obtain ⟨cd, hb0, h⟩ := Option.bind_eq_some_iff.1 h
  have HIS := Aside0.mk hb0
  have HB := Aside0.mk (Below.refl w.heap.size w)
  have HR := Aside0.mk hr0_2
  have HC := Aside0.mk hc0_2
  have HT := Aside0.mk hr1
  have HTc := Aside0.mk hc1
  have hu28 := Try.underlying28
  clear hr0_2 hc0_2 hb0 hr1 hc1
  by_cases hc : cd = 0
  · subst hc
    rw [if_pos rfl] at h
    split at h
    case isFalse => cases h
    rename_i hs
    simp only [Option.some.injEq, Prod.mk.injEq] at h
    obtain ⟨rfl, rfl⟩ := h
    obtain ⟨hs, hsi, hTl⟩ := hs
    obtain ⟨⟨W0, rfl, hw1, hw5⟩, ⟨H0, rfl, hh1, hh5⟩, hs1, hs3⟩ := seaV_nat hs
    have HW := Aside0.mk (And.intro hw1 hw5)
    have HH := Aside0.mk (And.intro hh1 hh5)
    have HSz := Aside0.mk (And.intro hs1 hs3)
    have HEnv := Aside0.mk (go_env (T := T) ⟨hw1, hw5⟩ ⟨hh1, hh5⟩ l0_2 hs3 (sea_ships hs) hTl (shotsIn_sea hsi))
    have HLen := Aside0.mk (show ([] : List Int).length + l0_2.length = l0_2.length by simp)
    obtain ⟨fls, hfl⟩ : ∃ fls, goV W0 H0 l0_2 T l0_2.length [] 0 (-1) = fls := ⟨_, rfl⟩
    have HFl := Aside0.mk hfl
    have e : goFleets (W0 : Int) (H0 : Int) l0_2 T (-1) = fls := by unfold goFleets; simp only [Int.toNat_natCast]; exact hfl
    rw [e]
    clear hs hw1 hw5 hh1 hh5 hs1 hs3 hfl e hsi hTl
    go_enter Try.func45, Try.ntmps45
    go_wp2_with (first | ((with_reducible refine gate_dst (N := 2) rfl ?_); refine box_event ?hg (N := 2) ?hd (cs := #[.int .i64 (W0 : Int), .int .i64 (H0 : Int), .slice A0_2 l0_2.length c0_2]) (t := 28) ?hr ?_; (case hd => rfl); (case hg => rfl); (case hr => first | (go_simp; done) | (go_simp; rfl)); intro g1 hg1 w1 hbox hb; have HX := Aside0.mk hbox; have n2_ := Aside0.mk (below_step HB.out hb); have n3_ := Aside0.mk (Kd.C_below HR.out hb); have n4_ := Aside0.mk (Kd.C_below HT.out hb); clear hbox hb hg1 HB HR HT; have HB := n2_; have HR := n3_; have HT := n4_; clear n2_ n3_ n4_; have hs0 := (blk_cell HX.out 0).trans rfl; have hs1 := (blk_cell HX.out 1).trans rfl; have hs2 := (blk_cell HX.out 2).trans rfl) | (go_at_call 83; refine (spec_l09Shots.calls k (W0 : Int) (H0 : Int) A0_2 c0_2 l0_2 A3 c3 T _ _ HR.out HC.out HT.out HTc.out HIS.out).mono ?_; rintro e w3 ⟨rfl, hb⟩; (try clear hs0); (try clear hs1); (try clear hs2); have n1_ := Aside0.mk (blk_below HX.out hb); have n2_ := Aside0.mk (below_step HB.out hb); have n3_ := Aside0.mk (Kd.C_below HR.out hb); have n4_ := Aside0.mk (Kd.C_below HT.out hb); clear hb HX HB HR HT; have HX := n1_; have HB := n2_; have HR := n3_; have HT := n4_; clear n1_ n2_ n3_ n4_; have hs0 := (blk_cell HX.out 0).trans rfl; have hs1 := (blk_cell HX.out 1).trans rfl; have hs2 := (blk_cell HX.out 2).trans rfl) | ((with_reducible refine gate_dst (N := 14) rfl ?_); refine Kd.R_lit (Kd.int .i64) _ 2 ?hg (N := 14) ?hd (xs := ([] : List Int)) (inner := []) (ok := fun _ => True) (okp := fun _ => True) ?hr ?hp (fun _ hk => hk) trivial (Below.refl _ _) (Nat.le_refl _) (by simp) ?_; (case hd => rfl); (case hg => rfl); (case hr => first | (go_simp; done) | (go_simp; rfl)); (case hp => exact Reps.none _ _); intro v8 w4 ho hb hg_ hnew_; clear hg_ hnew_; obtain ⟨A8, c8, e8⟩ := Kd.R_slice ho; subst e8; clear ho; (try clear hs0); (try clear hs1); (try clear hs2); have n1_ := Aside0.mk (blk_below HX.out hb); have n2_ := Aside0.mk (below_step HB.out hb); have n3_ := Aside0.mk (Kd.C_below HR.out hb); have n4_ := Aside0.mk (Kd.C_below HT.out hb); clear hb HX HB HR HT; have HX := n1_; have HB := n2_; have HR := n3_; have HT := n4_; clear n1_ n2_ n3_ n4_; have hs0 := (blk_cell HX.out 0).trans rfl; have hs1 := (blk_cell HX.out 1).trans rfl; have hs2 := (blk_cell HX.out 2).trans rfl) | (go_at_call 64; refine (spec_l09Go.does W0 H0 l0_2 A0_2 c0_2 A3 c3 T HW.out.2 HH.out.2 HSz.out.2 HC.out HTc.out HEnv.out.1 HEnv.out.2 l0_2.length [] 0 (-1) A8 c8 (fun _ => False) _ HLen.out InPl.nil (by omega) (fnil_ _ _ _) (Nat.zero_le _) HT.out HR.out).mono ?_; rintro e w5 ⟨v9, rfl, ho, hb⟩; obtain ⟨A9, c9, e9⟩ := Kd.N_slice ho; subst e9; rw [HFl.out] at ho ⊢; clear ho; (try clear hs0); (try clear hs1); (try clear hs2); have n1_ := Aside0.mk (blk_below HX.out hb); have n2_ := Aside0.mk (below_step HB.out hb); have n3_ := Aside0.mk (Kd.C_below HR.out hb); have n4_ := Aside0.mk (Kd.C_below HT.out hb); clear hb HX HB HR HT; have HX := n1_; have HB := n2_; have HR := n3_; have HT := n4_; clear n1_ n2_ n3_ n4_; have hs0 := (blk_cell HX.out 0).trans rfl; have hs1 := (blk_cell HX.out 1).trans rfl; have hs2 := (blk_cell HX.out 2).trans rfl))
    go_ret2
    exact ⟨rfl, HB.out⟩
  · rw [if_neg hc] at h
    simp only [Option.some.injEq, Prod.mk.injEq] at h
    obtain ⟨rfl, rfl⟩ := h
    have hcb : (cd != 0) = true := bne_iff_ne.mpr hc
    clear hc
    go_enter Try.func45, Try.ntmps45
    go_wp2_with (first | ((with_reducible refine gate_dst (N := 2) rfl ?_); refine box_event ?hg (N := 2) ?hd (cs := #[.int .i64 a0_0, .int .i64 a0_1, .slice A0_2 l0_2.length c0_2]) (t := 28) ?hr ?_; (case hd => rfl); (case hg => rfl); (case hr => first | (go_simp; done) | (go_simp; rfl)); intro g1 hg1 w1 hbox hb; have HX := Aside0.mk hbox; have n2_ := Aside0.mk (below_step HB.out hb); have n3_ := Aside0.mk (Kd.C_below HR.out hb); have n4_ := Aside0.mk (Kd.C_below HT.out hb); clear hbox hb hg1 HB HR HT; have HB := n2_; have HR := n3_; have HT := n4_; clear n2_ n3_ n4_; have hs0 := (blk_cell HX.out 0).trans rfl; have hs1 := (blk_cell HX.out 1).trans rfl; have hs2 := (blk_cell HX.out 2).trans rfl) | (go_at_call 83; refine (spec_l09Shots.calls k a0_0 a0_1 A0_2 c0_2 l0_2 A3 c3 T _ _ HR.out HC.out HT.out HTc.out HIS.out).mono ?_; rintro e w3 ⟨rfl, hb⟩; (try clear hs0); (try clear hs1); (try clear hs2); have n1_ := Aside0.mk (blk_below HX.out hb); have n2_ := Aside0.mk (below_step HB.out hb); have n3_ := Aside0.mk (Kd.C_below HR.out hb); have n4_ := Aside0.mk (Kd.C_below HT.out hb); clear hb HX HB HR HT; have HX := n1_; have HB := n2_; have HR := n3_; have HT := n4_; clear n1_ n2_ n3_ n4_; have hs0 := (blk_cell HX.out 0).trans rfl; have hs1 := (blk_cell HX.out 1).trans rfl; have hs2 := (blk_cell HX.out 2).trans rfl))
    go_ret2
    exact ⟨rfl, HB.out⟩
/-! ### impl_shotsCode: function 89 -/
def impl_shotsCode.f (k : Nat) (a0_0 : Int) (a0_1 : Int) (l0_2 : List Int) (l1 : List (S93)) : Option (Int) := (impl_IsSea.f k a0_0 a0_1 l0_2).bind fun t836 => (if t836 = true then ((impl_Sea_areShots.f k a0_0 a0_1 l0_2 l1).bind fun t837 => ((impl_first.f k (([(⟨t837, 2⟩ : S70)] : List (S70)))).bind fun t841 => (some t841))) else (some 1))
set_option maxHeartbeats 8000000 in
set_option maxRecDepth 100000 in
theorem impl_shotsCode.calls (k : Nat) (a0_0 : Int) (a0_1 : Int) (A0_2 : Option Addr) (c0_2 : Nat) (l0_2 : List Int) (A1 : Option Addr) (c1 : Nat) (l1 : List (S93)) (r : Int) (w : World) (hr0_2 : Kd.C (Kd.int .i64) w A0_2 l0_2.length l0_2) (hc0_2 : l0_2.length ≤ c0_2) (hr1 : Kd.C k93 w A1 l1.length l1) (hc1 : l1.length ≤ c1) (h : impl_shotsCode.f k a0_0 a0_1 l0_2 l1 = some r) :
  Calls Try.prog 89 #[.agg #[.int .i64 a0_0, .int .i64 a0_1, .slice A0_2 l0_2.length c0_2], .slice A1 l1.length c1] w fun e w' => e = .returned (.int .i64 r) ∧ Below w.heap.size w w' := by
 have hu28 := Try.underlying28
 have hu70 := Try.underlying70
 have HR0_2 := Aside0.mk hr0_2
 have HC0_2 := Aside0.mk hc0_2
 clear hr0_2 hc0_2
 have HR1 := Aside0.mk hr1
 have HC1 := Aside0.mk hc1
 clear hr1 hc1
 have HB := Aside0.mk (Below.refl w.heap.size w)
 have H : ((impl_IsSea.f k a0_0 a0_1 l0_2).bind fun t836 => (if t836 = true then ((impl_Sea_areShots.f k a0_0 a0_1 l0_2 l1).bind fun t837 => ((impl_first.f k (([(⟨t837, 2⟩ : S70)] : List (S70)))).bind fun t841 => (some t841))) else (some 1))) = some r := h
 clear h
 replace H := Option.bind_eq_some_iff.mp H
 obtain ⟨t836, A30, H⟩ := H
 replace H : (if t836 = true then ((impl_Sea_areShots.f k a0_0 a0_1 l0_2 l1).bind fun t837 => ((impl_first.f k (([(⟨t837, 2⟩ : S70)] : List (S70)))).bind fun t841 => (some t841))) else (some 1)) = some r := H
 have A3 := Aside0.mk A30
 clear A30
 by_cases c4 : t836 = true
 ·subst c4
  have H1 : ((impl_Sea_areShots.f k a0_0 a0_1 l0_2 l1).bind fun t837 => ((impl_first.f k (([(⟨t837, 2⟩ : S70)] : List (S70)))).bind fun t841 => (some t841))) = some r := by rw [if_pos rfl] at H; exact H
  clear H
  have H := H1
  clear H1
  replace H := Option.bind_eq_some_iff.mp H
  obtain ⟨t837, A50, H⟩ := H
  replace H : ((impl_first.f k (([(⟨t837, 2⟩ : S70)] : List (S70)))).bind fun t841 => (some t841)) = some r := H
  have A5 := Aside0.mk A50
  clear A50
  obtain ⟨y838, hy838⟩ : ∃ y_ : List (S70), y_ = (([(⟨t837, 2⟩ : S70)] : List (S70))) := ⟨_, rfl⟩
  replace H : ((impl_first.f k y838).bind fun t841 => (some t841)) = some r := by first | (rw [hy838]; with_reducible exact H) | (have H2_ := (Option.bind_some _ _).symm.trans H; rw [hy838]; with_reducible exact H2_) | (have H2_ := (Option.bind_some _ _).symm.trans H; with_reducible exact H2_) | with_reducible exact H | (rw [hy838]; exact H) | exact H
  have Ny838 := Aside0.mk hy838
  clear hy838
  replace H := Option.bind_eq_some_iff.mp H
  obtain ⟨t841, A60, H⟩ := H
  replace H : (some t841) = some r := H
  have A6 := Aside0.mk A60
  clear A60
  obtain rfl := Option.some.inj H
  go_enter Try.func89, Try.ntmps89
  go_wp2_with (first | ((with_reducible refine gate_dst (N := 2) rfl ?_); refine box_event ?hg (N := 2) ?hd (cs := #[.int .i64 a0_0, .int .i64 a0_1, .slice A0_2 l0_2.length c0_2]) (t := 28) ?hr ?_; (case hd => rfl); (case hg => rfl); (case hr => first | (go_simp; done) | (go_simp; rfl)); intro gb835 hg w7 hbox hb; have n0_ := Aside0.mk (below_step hb_ hb); have n1_ := Aside0.mk (hbox); have n2_ := Aside0.mk ((by rw [hg]; exact (below_size hb_) : w.heap.size ≤ gb835)); have n3_ := Aside0.mk ((by rw [hg]; exact (below_size hb_) : w.heap.size ≤ gb835)); clear HB; have HB := n0_; have BK835 := n1_; have GW835 := n2_; have GE835 := n3_; clear n0_ n1_ n2_ n3_; clear hb hbox hg; have hcz8_0 : w7.cell? ⟨gb835, 0, none⟩ = some (.int .i64 a0_0) := (blk_cell BK835.out 0).trans rfl; have hcz8_1 : w7.cell? ⟨gb835, 1, none⟩ = some (.int .i64 a0_1) := (blk_cell BK835.out 1).trans rfl; have hcz8_2 : w7.cell? ⟨gb835, 2, none⟩ = some (.slice A0_2 l0_2.length c0_2) := (blk_cell BK835.out 2).trans rfl; have hfz8_0 := blk_frozen BK835.out 0; have hfz8_1 := blk_frozen BK835.out 1; have hfz8_2 := blk_frozen BK835.out 2) | ((with_reducible refine gate_callee (f := 59) rfl ?_); refine goesA_ (some 6) rfl rfl Try.func59 (by kernel_rfl) rfl #[.agg #[.int .i64 a0_0, .int .i64 a0_1, .slice A0_2 l0_2.length c0_2]] rfl ?_; (with_reducible refine (impl_IsSea.calls k a0_0 a0_1 _ _ l0_2 true _ ?side1 ?side2 A3.out).mono ?_); (case side1 => repeat (first | exact (Kd.C_below HR0_2.out HB.out) | (with_reducible refine Kd.C_alloc ?_ _) | (with_reducible refine Kd.C_drewN ?_ _) | (with_reducible refine Kd.C_drew ?_))); (case side2 => exact HC0_2.out); rintro e w9 ⟨rfl, hb⟩; refine ⟨_, rfl, ?_⟩; have n0_ := Aside0.mk (blk_below (g := gb835) (o := .cells #[.int .i64 a0_0, .int .i64 a0_1, .slice A0_2 l0_2.length c0_2] 28 (0, 0)) (by (with_reducible repeat (first | refine blk_drewN ?_ _ | refine blk_drew ?_ | refine blk_alloc ?_ _)); exact BK835.out) hb); have n1_ := Aside0.mk (below_step (by repeat (first | (with_reducible first | exact HB.out | apply below_alloc | apply pw_below_drewN | apply below_drew1 | refine below_set ?_ GE835.out) | exact HB.out)) hb); clear BK835; clear HB; have BK835 := n0_; have HB := n1_; clear n0_ n1_; (try clear hb); (try clear hb2); (try clear hk); (try clear hi); have hcz10_0 : w9.cell? ⟨gb835, 0, none⟩ = some (.int .i64 a0_0) := (blk_cell BK835.out 0).trans rfl; have hcz10_1 : w9.cell? ⟨gb835, 1, none⟩ = some (.int .i64 a0_1) := (blk_cell BK835.out 1).trans rfl; have hcz10_2 : w9.cell? ⟨gb835, 2, none⟩ = some (.slice A0_2 l0_2.length c0_2) := (blk_cell BK835.out 2).trans rfl; have hfz10_0 := blk_frozen BK835.out 0; have hfz10_1 := blk_frozen BK835.out 1; have hfz10_2 := blk_frozen BK835.out 2) | ((with_reducible refine gate_callee (f := 86) rfl ?_); refine goesA_ (some 10) rfl rfl Try.func86 (by kernel_rfl) rfl #[.agg #[.int .i64 a0_0, .int .i64 a0_1, .slice A0_2 l0_2.length c0_2], .slice A1 l1.length c1] rfl ?_; (with_reducible refine (impl_Sea_areShots.calls k a0_0 a0_1 _ _ l0_2 _ _ l1 t837 _ ?side1 ?side2 ?side3 ?side4 A5.out).mono ?_); (case side1 => repeat (first | exact (Kd.C_below HR0_2.out HB.out) | (with_reducible refine Kd.C_alloc ?_ _) | (with_reducible refine Kd.C_drewN ?_ _) | (with_reducible refine Kd.C_drew ?_))); (case side2 => exact HC0_2.out); (case side3 => repeat (first | exact (Kd.C_below HR1.out HB.out) | (with_reducible refine Kd.C_alloc ?_ _) | (with_reducible refine Kd.C_drewN ?_ _) | (with_reducible refine Kd.C_drew ?_))); (case side4 => exact HC1.out); rintro e w11 ⟨rfl, hb⟩; refine ⟨_, rfl, ?_⟩; have n0_ := Aside0.mk (blk_below (g := gb835) (o := .cells #[.int .i64 a0_0, .int .i64 a0_1, .slice A0_2 l0_2.length c0_2] 28 (0, 0)) (by (with_reducible repeat (first | refine blk_drewN ?_ _ | refine blk_drew ?_ | refine blk_alloc ?_ _)); exact BK835.out) hb); have n1_ := Aside0.mk (below_step (by repeat (first | (with_reducible first | exact HB.out | apply below_alloc | apply pw_below_drewN | apply below_drew1 | refine below_set ?_ GE835.out) | exact HB.out)) hb); clear BK835; clear HB; have BK835 := n0_; have HB := n1_; clear n0_ n1_; (try clear hb); (try clear hb2); (try clear hk); (try clear hi)) | ((with_reducible refine gate_dst (N := 12) rfl ?_); refine Kd.R_lit k70 _ 70 ?hg (N := 12) ?hd (xs := ([(⟨t837, 2⟩ : S70)] : List (S70))) (inner := [.bool t837, .int .i64 2]) (ok := fun _ => True) (okp := fun _ => True) ?hr ?hp (fun _ hk => hk) trivial (Below.refl _ _) (Nat.le_refl _) (by simp) ?_; (case hd => rfl); (case hg => rfl); (case hr => first | (go_simp; done) | (go_simp; rfl)); (case hp => exact (Reps.c2 (show Kd.M k70 _ _ _ (⟨t837, 2⟩ : S70) [.bool t837, .int .i64 2] from (k70_mkM _ _ _ (⟨t837, 2⟩ : S70) )) (Reps.none _ _))); intro v839 w12 ho13 hb hg_ hnew_; clear hg_ hnew_; (first | rw [← Ny838.out] at ho13 | (simp only [Int.reduceToNat] at ho13; rw [← Ny838.out] at ho13)); have n0_ := Aside0.mk (Kd.R_lower ho13 (below_size (by repeat (first | (with_reducible first | exact HB.out | apply below_alloc | apply pw_below_drewN | apply below_drew1 | refine below_set ?_ GE835.out) | exact HB.out)))); have n1_ := Aside0.mk (blk_below (g := gb835) (o := .cells #[.int .i64 a0_0, .int .i64 a0_1, .slice A0_2 l0_2.length c0_2] 28 (0, 0)) (by (with_reducible repeat (first | refine blk_drewN ?_ _ | refine blk_drew ?_ | refine blk_alloc ?_ _)); exact BK835.out) hb); have n2_ := Aside0.mk (below_step (by repeat (first | (with_reducible first | exact HB.out | apply below_alloc | apply pw_below_drewN | apply below_drew1 | refine below_set ?_ GE835.out) | exact HB.out)) hb); clear BK835; clear HB; have HO840 := n0_; have BK835 := n1_; have HB := n2_; clear n0_ n1_ n2_; clear hb ho13; obtain ⟨Ao14, co14, eo14⟩ := Kd.R_slice HO840.out; subst eo14) | ((with_reducible refine gate_callee (f := 58) rfl ?_); refine goesA_ (some 13) rfl rfl Try.func58 (by kernel_rfl) rfl #[.slice Ao14 y838.length co14] rfl ?_; (with_reducible refine (impl_first.calls k _ _ y838 t841 _ ?side1 ?side2 A6.out).mono ?_); (case side1 => repeat (first | exact (Kd.R_reads' HO840.out).2.2 | (with_reducible refine Kd.C_alloc ?_ _) | (with_reducible refine Kd.C_drewN ?_ _) | (with_reducible refine Kd.C_drew ?_))); (case side2 => exact (Kd.R_reads' HO840.out).2.1); rintro e w15 ⟨rfl, hb⟩; refine ⟨_, rfl, ?_⟩; have n0_ := Aside0.mk (Kd.R_below (by (with_reducible repeat (first | apply Kd.R_alloc | apply Kd.R_drewN | apply Kd.R_drew)); exact HO840.out) hb); have n1_ := Aside0.mk (blk_below (g := gb835) (o := .cells #[.int .i64 a0_0, .int .i64 a0_1, .slice A0_2 l0_2.length c0_2] 28 (0, 0)) (by (with_reducible repeat (first | refine blk_drewN ?_ _ | refine blk_drew ?_ | refine blk_alloc ?_ _)); exact BK835.out) hb); have n2_ := Aside0.mk (below_step (by repeat (first | (with_reducible first | exact HB.out | apply below_alloc | apply pw_below_drewN | apply below_drew1 | refine below_set ?_ GE835.out) | exact HB.out)) hb); clear HO840; clear BK835; clear HB; have HO840 := n0_; have BK835 := n1_; have HB := n2_; clear n0_ n1_ n2_; (try clear hb); (try clear hb2); (try clear hk); (try clear hi)))
  go_ret
  exact ⟨by first | rfl | (simp [errW_none, errW_some] <;> rfl) | (simp [*, errW_none, errW_some] <;> rfl), by repeat (first | (with_reducible first | exact HB.out | apply below_alloc | apply pw_below_drewN | apply below_drew1 | refine below_set ?_ GE835.out) | exact HB.out)⟩
 ·replace c4 := Bool.eq_false_iff.mpr c4
  subst c4
  have H1 : (some 1) = some r := by rw [if_neg (show ¬ (false = true) by decide)] at H; exact H
  clear H
  have H := H1
  clear H1
  obtain rfl := Option.some.inj H
  go_enter Try.func89, Try.ntmps89
  go_wp2_with (first | ((with_reducible refine gate_dst (N := 2) rfl ?_); refine box_event ?hg (N := 2) ?hd (cs := #[.int .i64 a0_0, .int .i64 a0_1, .slice A0_2 l0_2.length c0_2]) (t := 28) ?hr ?_; (case hd => rfl); (case hg => rfl); (case hr => first | (go_simp; done) | (go_simp; rfl)); intro gb835 hg w16 hbox hb; have n0_ := Aside0.mk (below_step hb_ hb); have n1_ := Aside0.mk (hbox); have n2_ := Aside0.mk ((by rw [hg]; exact (below_size hb_) : w.heap.size ≤ gb835)); have n3_ := Aside0.mk ((by rw [hg]; exact (below_size hb_) : w.heap.size ≤ gb835)); clear HB; have HB := n0_; have BK835 := n1_; have GW835 := n2_; have GE835 := n3_; clear n0_ n1_ n2_ n3_; clear hb hbox hg; have hcz17_0 : w16.cell? ⟨gb835, 0, none⟩ = some (.int .i64 a0_0) := (blk_cell BK835.out 0).trans rfl; have hcz17_1 : w16.cell? ⟨gb835, 1, none⟩ = some (.int .i64 a0_1) := (blk_cell BK835.out 1).trans rfl; have hcz17_2 : w16.cell? ⟨gb835, 2, none⟩ = some (.slice A0_2 l0_2.length c0_2) := (blk_cell BK835.out 2).trans rfl; have hfz17_0 := blk_frozen BK835.out 0; have hfz17_1 := blk_frozen BK835.out 1; have hfz17_2 := blk_frozen BK835.out 2) | ((with_reducible refine gate_callee (f := 59) rfl ?_); refine goesA_ (some 6) rfl rfl Try.func59 (by kernel_rfl) rfl #[.agg #[.int .i64 a0_0, .int .i64 a0_1, .slice A0_2 l0_2.length c0_2]] rfl ?_; (with_reducible refine (impl_IsSea.calls k a0_0 a0_1 _ _ l0_2 false _ ?side1 ?side2 A3.out).mono ?_); (case side1 => repeat (first | exact (Kd.C_below HR0_2.out HB.out) | (with_reducible refine Kd.C_alloc ?_ _) | (with_reducible refine Kd.C_drewN ?_ _) | (with_reducible refine Kd.C_drew ?_))); (case side2 => exact HC0_2.out); rintro e w18 ⟨rfl, hb⟩; refine ⟨_, rfl, ?_⟩; have n0_ := Aside0.mk (blk_below (g := gb835) (o := .cells #[.int .i64 a0_0, .int .i64 a0_1, .slice A0_2 l0_2.length c0_2] 28 (0, 0)) (by (with_reducible repeat (first | refine blk_drewN ?_ _ | refine blk_drew ?_ | refine blk_alloc ?_ _)); exact BK835.out) hb); have n1_ := Aside0.mk (below_step (by repeat (first | (with_reducible first | exact HB.out | apply below_alloc | apply pw_below_drewN | apply below_drew1 | refine below_set ?_ GE835.out) | exact HB.out)) hb); clear BK835; clear HB; have BK835 := n0_; have HB := n1_; clear n0_ n1_; (try clear hb); (try clear hb2); (try clear hk); (try clear hi)))
  go_ret
  exact ⟨by first | rfl | (simp [errW_none, errW_some] <;> rfl) | (simp [*, errW_none, errW_some] <;> rfl), by repeat (first | (with_reducible first | exact HB.out | apply below_alloc | apply pw_below_drewN | apply below_drew1 | refine below_set ?_ GE835.out) | exact HB.out)⟩
/-! ### impl_CountAgreeing: function 46 -/
def impl_CountAgreeing.f (k : Nat) (a0_0 : Int) (a0_1 : Int) (l0_2 : List Int) (l1 : List (S93)) : Option (Int × Int) := (impl_shotsCode.f k a0_0 a0_1 l0_2 l1).bind fun t843 => (if t843 = 0 then ((impl_Sea_shares.f a0_0 a0_1 l0_2 l1).bind fun bt844 => (some (bt844.1, 0))) else (some (0, t843)))
set_option maxHeartbeats 8000000 in
set_option maxRecDepth 100000 in
theorem impl_CountAgreeing.calls (k : Nat) (a0_0 : Int) (a0_1 : Int) (A0_2 : Option Addr) (c0_2 : Nat) (l0_2 : List Int) (A1 : Option Addr) (c1 : Nat) (l1 : List (S93)) (r1 : Int) (r2 : Int) (w : World) (hr0_2 : Kd.C (Kd.int .i64) w A0_2 l0_2.length l0_2) (hc0_2 : l0_2.length ≤ c0_2) (hr1 : Kd.C k93 w A1 l1.length l1) (hc1 : l1.length ≤ c1) (h : impl_CountAgreeing.f k a0_0 a0_1 l0_2 l1 = some (r1, r2)) :
  Calls Try.prog 46 #[.agg #[.int .i64 a0_0, .int .i64 a0_1, .slice A0_2 l0_2.length c0_2], .slice A1 l1.length c1] w fun e w' => e = .returned (.tuple #[.int .i64 r1, .int .i64 r2]) ∧ Below w.heap.size w w' := by
 have hu28 := Try.underlying28
 have HR0_2 := Aside0.mk hr0_2
 have HC0_2 := Aside0.mk hc0_2
 clear hr0_2 hc0_2
 have HR1 := Aside0.mk hr1
 have HC1 := Aside0.mk hc1
 clear hr1 hc1
 have HB := Aside0.mk (Below.refl w.heap.size w)
 have H : ((impl_shotsCode.f k a0_0 a0_1 l0_2 l1).bind fun t843 => (if t843 = 0 then ((impl_Sea_shares.f a0_0 a0_1 l0_2 l1).bind fun bt844 => (some (bt844.1, 0))) else (some (0, t843)))) = some (r1, r2) := h
 clear h
 replace H := Option.bind_eq_some_iff.mp H
 obtain ⟨t843, A30, H⟩ := H
 replace H : (if t843 = 0 then ((impl_Sea_shares.f a0_0 a0_1 l0_2 l1).bind fun bt844 => (some (bt844.1, 0))) else (some (0, t843))) = some (r1, r2) := H
 have A3 := Aside0.mk A30
 clear A30
 by_cases c4 : t843 = 0
 ·rw [if_pos c4] at H
  have c4b0 : (t843 == 0) = true := beq_iff_eq.mpr c4
  have c4b1 : (t843 != 0) = false := bne_eq_false_iff_eq.mpr c4
  clear c4
  replace H := Option.bind_eq_some_iff.mp H
  obtain ⟨⟨t844, t845⟩, A50, H⟩ := H
  replace H : (some (t844, 0)) = some (r1, r2) := H
  have A5 := Aside0.mk A50
  clear A50
  simp only [Option.some.injEq, Prod.mk.injEq] at H
  obtain ⟨rfl, rfl⟩ := H
  go_enter Try.func46, Try.ntmps46
  go_wp2_with (first | ((with_reducible refine gate_dst (N := 2) rfl ?_); refine box_event ?hg (N := 2) ?hd (cs := #[.int .i64 a0_0, .int .i64 a0_1, .slice A0_2 l0_2.length c0_2]) (t := 28) ?hr ?_; (case hd => rfl); (case hg => rfl); (case hr => first | (go_simp; done) | (go_simp; rfl)); intro gb842 hg w6 hbox hb; have n0_ := Aside0.mk (below_step hb_ hb); have n1_ := Aside0.mk (hbox); have n2_ := Aside0.mk ((by rw [hg]; exact (below_size hb_) : w.heap.size ≤ gb842)); have n3_ := Aside0.mk ((by rw [hg]; exact (below_size hb_) : w.heap.size ≤ gb842)); clear HB; have HB := n0_; have BK842 := n1_; have GW842 := n2_; have GE842 := n3_; clear n0_ n1_ n2_ n3_; clear hb hbox hg; have hcz7_0 : w6.cell? ⟨gb842, 0, none⟩ = some (.int .i64 a0_0) := (blk_cell BK842.out 0).trans rfl; have hcz7_1 : w6.cell? ⟨gb842, 1, none⟩ = some (.int .i64 a0_1) := (blk_cell BK842.out 1).trans rfl; have hcz7_2 : w6.cell? ⟨gb842, 2, none⟩ = some (.slice A0_2 l0_2.length c0_2) := (blk_cell BK842.out 2).trans rfl; have hfz7_0 := blk_frozen BK842.out 0; have hfz7_1 := blk_frozen BK842.out 1; have hfz7_2 := blk_frozen BK842.out 2) | ((with_reducible refine gate_callee (f := 89) rfl ?_); refine goesA_ (some 11) rfl rfl Try.func89 (by kernel_rfl) rfl #[.agg #[.int .i64 a0_0, .int .i64 a0_1, .slice A0_2 l0_2.length c0_2], .slice A1 l1.length c1] rfl ?_; (with_reducible refine (impl_shotsCode.calls k a0_0 a0_1 _ _ l0_2 _ _ l1 t843 _ ?side1 ?side2 ?side3 ?side4 A3.out).mono ?_); (case side1 => repeat (first | exact (Kd.C_below HR0_2.out HB.out) | (with_reducible refine Kd.C_alloc ?_ _) | (with_reducible refine Kd.C_drewN ?_ _) | (with_reducible refine Kd.C_drew ?_))); (case side2 => exact HC0_2.out); (case side3 => repeat (first | exact (Kd.C_below HR1.out HB.out) | (with_reducible refine Kd.C_alloc ?_ _) | (with_reducible refine Kd.C_drewN ?_ _) | (with_reducible refine Kd.C_drew ?_))); (case side4 => exact HC1.out); rintro e w8 ⟨rfl, hb⟩; refine ⟨_, rfl, ?_⟩; have n0_ := Aside0.mk (blk_below (g := gb842) (o := .cells #[.int .i64 a0_0, .int .i64 a0_1, .slice A0_2 l0_2.length c0_2] 28 (0, 0)) (by (with_reducible repeat (first | refine blk_drewN ?_ _ | refine blk_drew ?_ | refine blk_alloc ?_ _)); exact BK842.out) hb); have n1_ := Aside0.mk (below_step (by repeat (first | (with_reducible first | exact HB.out | apply below_alloc | apply pw_below_drewN | apply below_drew1 | refine below_set ?_ GE842.out) | exact HB.out)) hb); clear BK842; clear HB; have BK842 := n0_; have HB := n1_; clear n0_ n1_; (try clear hb); (try clear hb2); (try clear hk); (try clear hi); have hcz9_0 : w8.cell? ⟨gb842, 0, none⟩ = some (.int .i64 a0_0) := (blk_cell BK842.out 0).trans rfl; have hcz9_1 : w8.cell? ⟨gb842, 1, none⟩ = some (.int .i64 a0_1) := (blk_cell BK842.out 1).trans rfl; have hcz9_2 : w8.cell? ⟨gb842, 2, none⟩ = some (.slice A0_2 l0_2.length c0_2) := (blk_cell BK842.out 2).trans rfl; have hfz9_0 := blk_frozen BK842.out 0; have hfz9_1 := blk_frozen BK842.out 1; have hfz9_2 := blk_frozen BK842.out 2) | ((with_reducible refine gate_callee (f := 90) rfl ?_); refine goesA_ (some 18) rfl rfl Try.func90 (by kernel_rfl) rfl #[.agg #[.int .i64 a0_0, .int .i64 a0_1, .slice A0_2 l0_2.length c0_2], .slice A1 l1.length c1] rfl ?_; (with_reducible refine (impl_Sea_shares.calls a0_0 a0_1 _ _ l0_2 _ _ l1 t844 t845 _ ?side1 ?side2 ?side3 ?side4 A5.out).mono ?_); (case side1 => repeat (first | exact (Kd.C_below HR0_2.out HB.out) | (with_reducible refine Kd.C_alloc ?_ _) | (with_reducible refine Kd.C_drewN ?_ _) | (with_reducible refine Kd.C_drew ?_))); (case side2 => exact HC0_2.out); (case side3 => repeat (first | exact (Kd.C_below HR1.out HB.out) | (with_reducible refine Kd.C_alloc ?_ _) | (with_reducible refine Kd.C_drewN ?_ _) | (with_reducible refine Kd.C_drew ?_))); (case side4 => exact HC1.out); rintro e w10 ⟨v846, rfl, ho0, hb⟩; refine ⟨_, rfl, ?_⟩; have n0_ := Aside0.mk (Kd.R_lower ho0 (below_size (by repeat (first | (with_reducible first | exact HB.out | apply below_alloc | apply pw_below_drewN | apply below_drew1 | refine below_set ?_ GE842.out) | exact HB.out)))); have n1_ := Aside0.mk (blk_below (g := gb842) (o := .cells #[.int .i64 a0_0, .int .i64 a0_1, .slice A0_2 l0_2.length c0_2] 28 (0, 0)) (by (with_reducible repeat (first | refine blk_drewN ?_ _ | refine blk_drew ?_ | refine blk_alloc ?_ _)); exact BK842.out) hb); have n2_ := Aside0.mk (below_step (by repeat (first | (with_reducible first | exact HB.out | apply below_alloc | apply pw_below_drewN | apply below_drew1 | refine below_set ?_ GE842.out) | exact HB.out)) hb); clear BK842; clear HB; have HO847 := n0_; have BK842 := n1_; have HB := n2_; clear n0_ n1_ n2_; (try clear hb); (try clear hb2); (try clear hk); (try clear hi); (try clear ho0)))
  go_ret2
  exact ⟨by first | rfl | (simp [errW_none, errW_some] <;> rfl) | (simp [*, errW_none, errW_some] <;> rfl), by repeat (first | (with_reducible first | exact HB.out | apply below_alloc | apply pw_below_drewN | apply below_drew1 | refine below_set ?_ GE842.out) | exact HB.out)⟩
 ·rw [if_neg c4] at H
  have c4b0 : (t843 == 0) = false := beq_eq_false_iff_ne.mpr c4
  have c4b1 : (t843 != 0) = true := bne_iff_ne.mpr c4
  simp only [Option.some.injEq, Prod.mk.injEq] at H
  obtain ⟨rfl, rfl⟩ := H
  go_enter Try.func46, Try.ntmps46
  go_wp2_with (first | ((with_reducible refine gate_dst (N := 2) rfl ?_); refine box_event ?hg (N := 2) ?hd (cs := #[.int .i64 a0_0, .int .i64 a0_1, .slice A0_2 l0_2.length c0_2]) (t := 28) ?hr ?_; (case hd => rfl); (case hg => rfl); (case hr => first | (go_simp; done) | (go_simp; rfl)); intro gb842 hg w11 hbox hb; have n0_ := Aside0.mk (below_step hb_ hb); have n1_ := Aside0.mk (hbox); have n2_ := Aside0.mk ((by rw [hg]; exact (below_size hb_) : w.heap.size ≤ gb842)); have n3_ := Aside0.mk ((by rw [hg]; exact (below_size hb_) : w.heap.size ≤ gb842)); clear HB; have HB := n0_; have BK842 := n1_; have GW842 := n2_; have GE842 := n3_; clear n0_ n1_ n2_ n3_; clear hb hbox hg; have hcz12_0 : w11.cell? ⟨gb842, 0, none⟩ = some (.int .i64 a0_0) := (blk_cell BK842.out 0).trans rfl; have hcz12_1 : w11.cell? ⟨gb842, 1, none⟩ = some (.int .i64 a0_1) := (blk_cell BK842.out 1).trans rfl; have hcz12_2 : w11.cell? ⟨gb842, 2, none⟩ = some (.slice A0_2 l0_2.length c0_2) := (blk_cell BK842.out 2).trans rfl; have hfz12_0 := blk_frozen BK842.out 0; have hfz12_1 := blk_frozen BK842.out 1; have hfz12_2 := blk_frozen BK842.out 2) | ((with_reducible refine gate_callee (f := 89) rfl ?_); refine goesA_ (some 11) rfl rfl Try.func89 (by kernel_rfl) rfl #[.agg #[.int .i64 a0_0, .int .i64 a0_1, .slice A0_2 l0_2.length c0_2], .slice A1 l1.length c1] rfl ?_; (with_reducible refine (impl_shotsCode.calls k a0_0 a0_1 _ _ l0_2 _ _ l1 t843 _ ?side1 ?side2 ?side3 ?side4 A3.out).mono ?_); (case side1 => repeat (first | exact (Kd.C_below HR0_2.out HB.out) | (with_reducible refine Kd.C_alloc ?_ _) | (with_reducible refine Kd.C_drewN ?_ _) | (with_reducible refine Kd.C_drew ?_))); (case side2 => exact HC0_2.out); (case side3 => repeat (first | exact (Kd.C_below HR1.out HB.out) | (with_reducible refine Kd.C_alloc ?_ _) | (with_reducible refine Kd.C_drewN ?_ _) | (with_reducible refine Kd.C_drew ?_))); (case side4 => exact HC1.out); rintro e w13 ⟨rfl, hb⟩; refine ⟨_, rfl, ?_⟩; have n0_ := Aside0.mk (blk_below (g := gb842) (o := .cells #[.int .i64 a0_0, .int .i64 a0_1, .slice A0_2 l0_2.length c0_2] 28 (0, 0)) (by (with_reducible repeat (first | refine blk_drewN ?_ _ | refine blk_drew ?_ | refine blk_alloc ?_ _)); exact BK842.out) hb); have n1_ := Aside0.mk (below_step (by repeat (first | (with_reducible first | exact HB.out | apply below_alloc | apply pw_below_drewN | apply below_drew1 | refine below_set ?_ GE842.out) | exact HB.out)) hb); clear BK842; clear HB; have BK842 := n0_; have HB := n1_; clear n0_ n1_; (try clear hb); (try clear hb2); (try clear hk); (try clear hi)))
  go_ret2
  exact ⟨by first | rfl | (simp [errW_none, errW_some] <;> rfl) | (simp [*, errW_none, errW_some] <;> rfl), by repeat (first | (with_reducible first | exact HB.out | apply below_alloc | apply pw_below_drewN | apply below_drew1 | refine below_set ?_ GE842.out) | exact HB.out)⟩
/-! ### laws_FnExactCountAgreeing: function 11 -/
def laws_FnExactCountAgreeing.j0 : Nat → List (S95) → List (S93) → Bool → Int → Int → List Int → Int → Int → List Int → Option (Bool)
 | 0, _, _, _, _, _, _, _, _, _ => none
 | k + 1, x1, x9, x47, x849000, x849001, x849002, x867000, x867001, x867002 => if x47 = true then (some false) else ((laws_toSea.f k x849000 x849001 x849002).bind fun bt872 => ((laws_eqSea.f k x867000 x867001 x867002 bt872.1 bt872.2.1 bt872.2.2).bind fun t877 => (if t877 = true then ((laws_toShotS.f k x1).bind fun t878 => ((laws_eqShotS.f k x9 t878).bind fun t881 => (if t881 = true then (some true) else (some false)))) else (some false))))
def laws_FnExactCountAgreeing.f (k : Nat) (a0_0 : Int) (a0_1 : Int) (l0_2 : List Int) (l1 : List (S95)) : Option (Bool) := (laws_szSea.f a0_0 a0_1 l0_2 1048576).bind fun t849 => (if t849 < 0 then (some true) else ((laws_szShotS.f l1 t849).bind fun t850 => (if t850 < 0 then (some true) else ((laws_toSea.f k a0_0 a0_1 l0_2).bind fun bt851 => ((laws_toShotS.f k l1).bind fun t856 => ((spec_CountAgreeing.f k bt851.1 bt851.2.1 bt851.2.2 t856).bind fun bt859 => ((laws_toSea.f k a0_0 a0_1 l0_2).bind fun bt861 => ((laws_toShotS.f k l1).bind fun t867 => ((impl_CountAgreeing.f k bt861.1 bt861.2.1 bt861.2.2 t867).bind fun bt870 => (if bt870.1 = bt859.1 then (laws_FnExactCountAgreeing.j0 k l1 t867 (bt870.2 != bt859.2) a0_0 a0_1 l0_2 bt861.1 bt861.2.1 bt861.2.2) else (laws_FnExactCountAgreeing.j0 k l1 t867 true a0_0 a0_1 l0_2 bt861.1 bt861.2.1 bt861.2.2)))))))))))
set_option maxHeartbeats 8000000 in
set_option maxRecDepth 100000 in
theorem laws_FnExactCountAgreeing.calls (k : Nat) (a0_0 : Int) (a0_1 : Int) (A0_2 : Option Addr) (c0_2 : Nat) (l0_2 : List Int) (A1 : Option Addr) (c1 : Nat) (l1 : List (S95)) (r : Bool) (w : World) (hr0_2 : Kd.C (Kd.int .i64) w A0_2 l0_2.length l0_2) (hc0_2 : l0_2.length ≤ c0_2) (hr1 : Kd.C k95 w A1 l1.length l1) (hc1 : l1.length ≤ c1) (h : laws_FnExactCountAgreeing.f k a0_0 a0_1 l0_2 l1 = some true) :
  Calls Try.prog 11 #[.agg #[.int .i64 a0_0, .int .i64 a0_1, .slice A0_2 l0_2.length c0_2], .slice A1 l1.length c1] w fun e w' => e = .returned (.bool true) ∧ Below w.heap.size w w' := by
 have hu24 := Try.underlying24
 have hu28 := Try.underlying28
 have HR0_2 := Aside0.mk hr0_2
 have HC0_2 := Aside0.mk hc0_2
 clear hr0_2 hc0_2
 have HR1 := Aside0.mk hr1
 have HC1 := Aside0.mk hc1
 clear hr1 hc1
 have HB := Aside0.mk (Below.refl w.heap.size w)
 have H : ((laws_szSea.f a0_0 a0_1 l0_2 1048576).bind fun t849 => (if t849 < 0 then (some true) else ((laws_szShotS.f l1 t849).bind fun t850 => (if t850 < 0 then (some true) else ((laws_toSea.f k a0_0 a0_1 l0_2).bind fun bt851 => ((laws_toShotS.f k l1).bind fun t856 => ((spec_CountAgreeing.f k bt851.1 bt851.2.1 bt851.2.2 t856).bind fun bt859 => ((laws_toSea.f k a0_0 a0_1 l0_2).bind fun bt861 => ((laws_toShotS.f k l1).bind fun t867 => ((impl_CountAgreeing.f k bt861.1 bt861.2.1 bt861.2.2 t867).bind fun bt870 => (if bt870.1 = bt859.1 then (laws_FnExactCountAgreeing.j0 k l1 t867 (bt870.2 != bt859.2) a0_0 a0_1 l0_2 bt861.1 bt861.2.1 bt861.2.2) else (laws_FnExactCountAgreeing.j0 k l1 t867 true a0_0 a0_1 l0_2 bt861.1 bt861.2.1 bt861.2.2)))))))))))) = some true := h
 clear h
 replace H := Option.bind_eq_some_iff.mp H
 obtain ⟨t849, A30, H⟩ := H
 replace H : (if t849 < 0 then (some true) else ((laws_szShotS.f l1 t849).bind fun t850 => (if t850 < 0 then (some true) else ((laws_toSea.f k a0_0 a0_1 l0_2).bind fun bt851 => ((laws_toShotS.f k l1).bind fun t856 => ((spec_CountAgreeing.f k bt851.1 bt851.2.1 bt851.2.2 t856).bind fun bt859 => ((laws_toSea.f k a0_0 a0_1 l0_2).bind fun bt861 => ((laws_toShotS.f k l1).bind fun t867 => ((impl_CountAgreeing.f k bt861.1 bt861.2.1 bt861.2.2 t867).bind fun bt870 => (if bt870.1 = bt859.1 then (laws_FnExactCountAgreeing.j0 k l1 t867 (bt870.2 != bt859.2) a0_0 a0_1 l0_2 bt861.1 bt861.2.1 bt861.2.2) else (laws_FnExactCountAgreeing.j0 k l1 t867 true a0_0 a0_1 l0_2 bt861.1 bt861.2.1 bt861.2.2))))))))))) = some true := H
 have A3 := Aside0.mk A30
 clear A30
 by_cases c4 : t849 < 0
 ·rw [if_pos c4] at H
  have c4b0 : decide (t849 < 0) = true := decide_eq_true c4
  clear c4
  clear H
  go_enter Try.func11, Try.ntmps11
  go_wp2_with (first | ((with_reducible refine gate_dst (N := 2) rfl ?_); refine box_event ?hg (N := 2) ?hd (cs := #[.int .i64 a0_0, .int .i64 a0_1, .slice A0_2 l0_2.length c0_2]) (t := 24) ?hr ?_; (case hd => rfl); (case hg => rfl); (case hr => first | (go_simp; done) | (go_simp; rfl)); intro gb848 hg w5 hbox hb; have n0_ := Aside0.mk (below_step hb_ hb); have n1_ := Aside0.mk (hbox); have n2_ := Aside0.mk ((by rw [hg]; exact (below_size hb_) : w.heap.size ≤ gb848)); have n3_ := Aside0.mk ((by rw [hg]; exact (below_size hb_) : w.heap.size ≤ gb848)); clear HB; have HB := n0_; have BK848 := n1_; have GW848 := n2_; have GE848 := n3_; clear n0_ n1_ n2_ n3_; clear hb hbox hg; have hcz6_0 : w5.cell? ⟨gb848, 0, none⟩ = some (.int .i64 a0_0) := (blk_cell BK848.out 0).trans rfl; have hcz6_1 : w5.cell? ⟨gb848, 1, none⟩ = some (.int .i64 a0_1) := (blk_cell BK848.out 1).trans rfl; have hcz6_2 : w5.cell? ⟨gb848, 2, none⟩ = some (.slice A0_2 l0_2.length c0_2) := (blk_cell BK848.out 2).trans rfl; have hfz6_0 := blk_frozen BK848.out 0; have hfz6_1 := blk_frozen BK848.out 1; have hfz6_2 := blk_frozen BK848.out 2) | ((with_reducible refine gate_callee (f := 15) rfl ?_); refine goesA_ (some 14) rfl rfl Try.func15 (by kernel_rfl) rfl #[.agg #[.int .i64 a0_0, .int .i64 a0_1, .slice A0_2 l0_2.length c0_2], .int .i64 1048576] rfl ?_; (with_reducible refine (laws_szSea.calls a0_0 a0_1 _ _ l0_2 1048576 t849 _ ?side1 ?side2 A3.out).mono ?_); (case side1 => repeat (first | exact (Kd.C_below HR0_2.out HB.out) | (with_reducible refine Kd.C_alloc ?_ _) | (with_reducible refine Kd.C_drewN ?_ _) | (with_reducible refine Kd.C_drew ?_))); (case side2 => exact HC0_2.out); rintro e w7 ⟨rfl, hb⟩; refine ⟨_, rfl, ?_⟩; have n0_ := Aside0.mk (blk_below (g := gb848) (o := .cells #[.int .i64 a0_0, .int .i64 a0_1, .slice A0_2 l0_2.length c0_2] 24 (0, 0)) (by (with_reducible repeat (first | refine blk_drewN ?_ _ | refine blk_drew ?_ | refine blk_alloc ?_ _)); exact BK848.out) hb); have n1_ := Aside0.mk (below_step (by repeat (first | (with_reducible first | exact HB.out | apply below_alloc | apply pw_below_drewN | apply below_drew1 | refine below_set ?_ GE848.out) | exact HB.out)) hb); clear BK848; clear HB; have BK848 := n0_; have HB := n1_; clear n0_ n1_; (try clear hb); (try clear hb2); (try clear hk); (try clear hi)))
  go_ret
  exact ⟨by first | rfl | (simp [errW_none, errW_some] <;> rfl) | (simp [*, errW_none, errW_some] <;> rfl), by repeat (first | (with_reducible first | exact HB.out | apply below_alloc | apply pw_below_drewN | apply below_drew1 | refine below_set ?_ GE848.out) | exact HB.out)⟩
 ·rw [if_neg c4] at H
  have c4b0 : decide (t849 < 0) = false := decide_eq_false c4
  clear c4
  replace H := Option.bind_eq_some_iff.mp H
  obtain ⟨t850, A80, H⟩ := H
  replace H : (if t850 < 0 then (some true) else ((laws_toSea.f k a0_0 a0_1 l0_2).bind fun bt851 => ((laws_toShotS.f k l1).bind fun t856 => ((spec_CountAgreeing.f k bt851.1 bt851.2.1 bt851.2.2 t856).bind fun bt859 => ((laws_toSea.f k a0_0 a0_1 l0_2).bind fun bt861 => ((laws_toShotS.f k l1).bind fun t867 => ((impl_CountAgreeing.f k bt861.1 bt861.2.1 bt861.2.2 t867).bind fun bt870 => (if bt870.1 = bt859.1 then (laws_FnExactCountAgreeing.j0 k l1 t867 (bt870.2 != bt859.2) a0_0 a0_1 l0_2 bt861.1 bt861.2.1 bt861.2.2) else (laws_FnExactCountAgreeing.j0 k l1 t867 true a0_0 a0_1 l0_2 bt861.1 bt861.2.1 bt861.2.2))))))))) = some true := H
  have A8 := Aside0.mk A80
  clear A80
  by_cases c9 : t850 < 0
  ·rw [if_pos c9] at H
   have c9b0 : decide (t850 < 0) = true := decide_eq_true c9
   clear c9
   clear H
   go_enter Try.func11, Try.ntmps11
   go_wp2_with (first | ((with_reducible refine gate_dst (N := 2) rfl ?_); refine box_event ?hg (N := 2) ?hd (cs := #[.int .i64 a0_0, .int .i64 a0_1, .slice A0_2 l0_2.length c0_2]) (t := 24) ?hr ?_; (case hd => rfl); (case hg => rfl); (case hr => first | (go_simp; done) | (go_simp; rfl)); intro gb848 hg w10 hbox hb; have n0_ := Aside0.mk (below_step hb_ hb); have n1_ := Aside0.mk (hbox); have n2_ := Aside0.mk ((by rw [hg]; exact (below_size hb_) : w.heap.size ≤ gb848)); have n3_ := Aside0.mk ((by rw [hg]; exact (below_size hb_) : w.heap.size ≤ gb848)); clear HB; have HB := n0_; have BK848 := n1_; have GW848 := n2_; have GE848 := n3_; clear n0_ n1_ n2_ n3_; clear hb hbox hg; have hcz11_0 : w10.cell? ⟨gb848, 0, none⟩ = some (.int .i64 a0_0) := (blk_cell BK848.out 0).trans rfl; have hcz11_1 : w10.cell? ⟨gb848, 1, none⟩ = some (.int .i64 a0_1) := (blk_cell BK848.out 1).trans rfl; have hcz11_2 : w10.cell? ⟨gb848, 2, none⟩ = some (.slice A0_2 l0_2.length c0_2) := (blk_cell BK848.out 2).trans rfl; have hfz11_0 := blk_frozen BK848.out 0; have hfz11_1 := blk_frozen BK848.out 1; have hfz11_2 := blk_frozen BK848.out 2) | ((with_reducible refine gate_callee (f := 15) rfl ?_); refine goesA_ (some 14) rfl rfl Try.func15 (by kernel_rfl) rfl #[.agg #[.int .i64 a0_0, .int .i64 a0_1, .slice A0_2 l0_2.length c0_2], .int .i64 1048576] rfl ?_; (with_reducible refine (laws_szSea.calls a0_0 a0_1 _ _ l0_2 1048576 t849 _ ?side1 ?side2 A3.out).mono ?_); (case side1 => repeat (first | exact (Kd.C_below HR0_2.out HB.out) | (with_reducible refine Kd.C_alloc ?_ _) | (with_reducible refine Kd.C_drewN ?_ _) | (with_reducible refine Kd.C_drew ?_))); (case side2 => exact HC0_2.out); rintro e w12 ⟨rfl, hb⟩; refine ⟨_, rfl, ?_⟩; have n0_ := Aside0.mk (blk_below (g := gb848) (o := .cells #[.int .i64 a0_0, .int .i64 a0_1, .slice A0_2 l0_2.length c0_2] 24 (0, 0)) (by (with_reducible repeat (first | refine blk_drewN ?_ _ | refine blk_drew ?_ | refine blk_alloc ?_ _)); exact BK848.out) hb); have n1_ := Aside0.mk (below_step (by repeat (first | (with_reducible first | exact HB.out | apply below_alloc | apply pw_below_drewN | apply below_drew1 | refine below_set ?_ GE848.out) | exact HB.out)) hb); clear BK848; clear HB; have BK848 := n0_; have HB := n1_; clear n0_ n1_; (try clear hb); (try clear hb2); (try clear hk); (try clear hi)) | ((with_reducible refine gate_callee (f := 40) rfl ?_); refine goesA_ (some 19) rfl rfl Try.func40 (by kernel_rfl) rfl #[.slice A1 l1.length c1, .int .i64 t849] rfl ?_; (with_reducible refine (laws_szShotS.calls _ _ l1 t849 t850 _ ?side1 ?side2 A8.out).mono ?_); (case side1 => repeat (first | exact (Kd.C_below HR1.out HB.out) | (with_reducible refine Kd.C_alloc ?_ _) | (with_reducible refine Kd.C_drewN ?_ _) | (with_reducible refine Kd.C_drew ?_))); (case side2 => exact HC1.out); rintro e w' ⟨rfl, ⟨nd, rfl⟩⟩; refine ⟨_, rfl, ?_⟩))
   go_ret
   exact ⟨by first | rfl | (simp [errW_none, errW_some] <;> rfl) | (simp [*, errW_none, errW_some] <;> rfl), by repeat (first | (with_reducible first | exact HB.out | apply below_alloc | apply pw_below_drewN | apply below_drew1 | refine below_set ?_ GE848.out) | exact HB.out)⟩
  ·rw [if_neg c9] at H
   have c9b0 : decide (t850 < 0) = false := decide_eq_false c9
   clear c9
   replace H := Option.bind_eq_some_iff.mp H
   obtain ⟨⟨t851, t852, t853⟩, A130, H⟩ := H
   replace H : ((laws_toShotS.f k l1).bind fun t856 => ((spec_CountAgreeing.f k t851 t852 t853 t856).bind fun bt859 => ((laws_toSea.f k a0_0 a0_1 l0_2).bind fun bt861 => ((laws_toShotS.f k l1).bind fun t867 => ((impl_CountAgreeing.f k bt861.1 bt861.2.1 bt861.2.2 t867).bind fun bt870 => (if bt870.1 = bt859.1 then (laws_FnExactCountAgreeing.j0 k l1 t867 (bt870.2 != bt859.2) a0_0 a0_1 l0_2 bt861.1 bt861.2.1 bt861.2.2) else (laws_FnExactCountAgreeing.j0 k l1 t867 true a0_0 a0_1 l0_2 bt861.1 bt861.2.1 bt861.2.2))))))) = some true := H
   have A13 := Aside0.mk A130
   clear A130
   replace H := Option.bind_eq_some_iff.mp H
   obtain ⟨t856, A140, H⟩ := H
   replace H : ((spec_CountAgreeing.f k t851 t852 t853 t856).bind fun bt859 => ((laws_toSea.f k a0_0 a0_1 l0_2).bind fun bt861 => ((laws_toShotS.f k l1).bind fun t867 => ((impl_CountAgreeing.f k bt861.1 bt861.2.1 bt861.2.2 t867).bind fun bt870 => (if bt870.1 = bt859.1 then (laws_FnExactCountAgreeing.j0 k l1 t867 (bt870.2 != bt859.2) a0_0 a0_1 l0_2 bt861.1 bt861.2.1 bt861.2.2) else (laws_FnExactCountAgreeing.j0 k l1 t867 true a0_0 a0_1 l0_2 bt861.1 bt861.2.1 bt861.2.2)))))) = some true := H
   have A14 := Aside0.mk A140
   clear A140
   replace H := Option.bind_eq_some_iff.mp H
   obtain ⟨⟨t859, t860⟩, A150, H⟩ := H
   replace H : ((laws_toSea.f k a0_0 a0_1 l0_2).bind fun bt861 => ((laws_toShotS.f k l1).bind fun t867 => ((impl_CountAgreeing.f k bt861.1 bt861.2.1 bt861.2.2 t867).bind fun bt870 => (if bt870.1 = t859 then (laws_FnExactCountAgreeing.j0 k l1 t867 (bt870.2 != t860) a0_0 a0_1 l0_2 bt861.1 bt861.2.1 bt861.2.2) else (laws_FnExactCountAgreeing.j0 k l1 t867 true a0_0 a0_1 l0_2 bt861.1 bt861.2.1 bt861.2.2))))) = some true := H
   have A15 := Aside0.mk A150
   clear A150
   replace H := Option.bind_eq_some_iff.mp H
   obtain ⟨⟨t861, t862, t863⟩, A160, H⟩ := H
   replace H : ((laws_toShotS.f k l1).bind fun t867 => ((impl_CountAgreeing.f k t861 t862 t863 t867).bind fun bt870 => (if bt870.1 = t859 then (laws_FnExactCountAgreeing.j0 k l1 t867 (bt870.2 != t860) a0_0 a0_1 l0_2 t861 t862 t863) else (laws_FnExactCountAgreeing.j0 k l1 t867 true a0_0 a0_1 l0_2 t861 t862 t863)))) = some true := H
   have A16 := Aside0.mk A160
   clear A160
   replace H := Option.bind_eq_some_iff.mp H
   obtain ⟨t867, A170, H⟩ := H
   replace H : ((impl_CountAgreeing.f k t861 t862 t863 t867).bind fun bt870 => (if bt870.1 = t859 then (laws_FnExactCountAgreeing.j0 k l1 t867 (bt870.2 != t860) a0_0 a0_1 l0_2 t861 t862 t863) else (laws_FnExactCountAgreeing.j0 k l1 t867 true a0_0 a0_1 l0_2 t861 t862 t863))) = some true := H
   have A17 := Aside0.mk A170
   clear A170
   replace H := Option.bind_eq_some_iff.mp H
   obtain ⟨⟨t870, t871⟩, A180, H⟩ := H
   replace H : (if t870 = t859 then (laws_FnExactCountAgreeing.j0 k l1 t867 (t871 != t860) a0_0 a0_1 l0_2 t861 t862 t863) else (laws_FnExactCountAgreeing.j0 k l1 t867 true a0_0 a0_1 l0_2 t861 t862 t863)) = some true := H
   have A18 := Aside0.mk A180
   clear A180
   have HC19 := Aside0.mk H
   clear H
   go_enter Try.func11, Try.ntmps11
   go_upto_region 12 with (first | ((with_reducible refine gate_dst (N := 2) rfl ?_); refine box_event ?hg (N := 2) ?hd (cs := #[.int .i64 a0_0, .int .i64 a0_1, .slice A0_2 l0_2.length c0_2]) (t := 24) ?hr ?_; (case hd => rfl); (case hg => rfl); (case hr => first | (go_simp; done) | (go_simp; rfl)); intro gb848 hg w20 hbox hb; have n0_ := Aside0.mk (below_step hb_ hb); have n1_ := Aside0.mk (hbox); have n2_ := Aside0.mk ((by rw [hg]; exact (below_size hb_) : w.heap.size ≤ gb848)); have n3_ := Aside0.mk ((by rw [hg]; exact (below_size hb_) : w.heap.size ≤ gb848)); clear HB; have HB := n0_; have BK848 := n1_; have GW848 := n2_; have GE848 := n3_; clear n0_ n1_ n2_ n3_; clear hb hbox hg; have hcz21_0 : w20.cell? ⟨gb848, 0, none⟩ = some (.int .i64 a0_0) := (blk_cell BK848.out 0).trans rfl; have hcz21_1 : w20.cell? ⟨gb848, 1, none⟩ = some (.int .i64 a0_1) := (blk_cell BK848.out 1).trans rfl; have hcz21_2 : w20.cell? ⟨gb848, 2, none⟩ = some (.slice A0_2 l0_2.length c0_2) := (blk_cell BK848.out 2).trans rfl; have hfz21_0 := blk_frozen BK848.out 0; have hfz21_1 := blk_frozen BK848.out 1; have hfz21_2 := blk_frozen BK848.out 2) | ((with_reducible refine gate_callee (f := 15) rfl ?_); refine goesA_ (some 14) rfl rfl Try.func15 (by kernel_rfl) rfl #[.agg #[.int .i64 a0_0, .int .i64 a0_1, .slice A0_2 l0_2.length c0_2], .int .i64 1048576] rfl ?_; (with_reducible refine (laws_szSea.calls a0_0 a0_1 _ _ l0_2 1048576 t849 _ ?side1 ?side2 A3.out).mono ?_); (case side1 => repeat (first | exact (Kd.C_below HR0_2.out HB.out) | (with_reducible refine Kd.C_alloc ?_ _) | (with_reducible refine Kd.C_drewN ?_ _) | (with_reducible refine Kd.C_drew ?_))); (case side2 => exact HC0_2.out); rintro e w22 ⟨rfl, hb⟩; refine ⟨_, rfl, ?_⟩; have n0_ := Aside0.mk (blk_below (g := gb848) (o := .cells #[.int .i64 a0_0, .int .i64 a0_1, .slice A0_2 l0_2.length c0_2] 24 (0, 0)) (by (with_reducible repeat (first | refine blk_drewN ?_ _ | refine blk_drew ?_ | refine blk_alloc ?_ _)); exact BK848.out) hb); have n1_ := Aside0.mk (below_step (by repeat (first | (with_reducible first | exact HB.out | apply below_alloc | apply pw_below_drewN | apply below_drew1 | refine below_set ?_ GE848.out) | exact HB.out)) hb); clear BK848; clear HB; have BK848 := n0_; have HB := n1_; clear n0_ n1_; (try clear hb); (try clear hb2); (try clear hk); (try clear hi)) | ((with_reducible refine gate_callee (f := 40) rfl ?_); refine goesA_ (some 19) rfl rfl Try.func40 (by kernel_rfl) rfl #[.slice A1 l1.length c1, .int .i64 t849] rfl ?_; (with_reducible refine (laws_szShotS.calls _ _ l1 t849 t850 _ ?side1 ?side2 A8.out).mono ?_); (case side1 => repeat (first | exact (Kd.C_below HR1.out HB.out) | (with_reducible refine Kd.C_alloc ?_ _) | (with_reducible refine Kd.C_drewN ?_ _) | (with_reducible refine Kd.C_drew ?_))); (case side2 => exact HC1.out); rintro e w' ⟨rfl, ⟨nd, rfl⟩⟩; refine ⟨_, rfl, ?_⟩; (try (rw [drewN_self w22]; generalize hq_ : World.drewN w22 _ = w22; have n0_ : Aside0 (w22.heap[gb848]? = some (.cells #[.int .i64 a0_0, .int .i64 a0_1, .slice A0_2 l0_2.length c0_2] 24 (0, 0))) := ⟨by rw [← hq_]; exact (by (with_reducible repeat (first | refine blk_drewN ?_ _ | refine blk_drew ?_ | refine blk_alloc ?_ _)); exact BK848.out)⟩; have n1_ : Aside0 (Below w.heap.size w w22) := ⟨by rw [← hq_]; exact (by repeat (first | (with_reducible first | exact HB.out | apply below_alloc | apply pw_below_drewN | apply below_drew1 | refine below_set ?_ GE848.out) | exact HB.out))⟩; clear BK848 HB hq_; have BK848 := n0_; have HB := n1_; clear n0_ n1_)); have hcz23_0 : w22.cell? ⟨gb848, 0, none⟩ = some (.int .i64 a0_0) := (blk_cell BK848.out 0).trans rfl; have hcz23_1 : w22.cell? ⟨gb848, 1, none⟩ = some (.int .i64 a0_1) := (blk_cell BK848.out 1).trans rfl; have hcz23_2 : w22.cell? ⟨gb848, 2, none⟩ = some (.slice A0_2 l0_2.length c0_2) := (blk_cell BK848.out 2).trans rfl; have hfz23_0 := blk_frozen BK848.out 0; have hfz23_1 := blk_frozen BK848.out 1; have hfz23_2 := blk_frozen BK848.out 2) | ((with_reducible refine gate_callee (f := 17) rfl ?_); refine goesA_ (some 24) rfl rfl Try.func17 (by kernel_rfl) rfl #[.agg #[.int .i64 a0_0, .int .i64 a0_1, .slice A0_2 l0_2.length c0_2]] rfl ?_; (with_reducible refine (laws_toSea.calls k a0_0 a0_1 _ _ l0_2 t851 t852 t853 _ ?side1 ?side2 A13.out).mono ?_); (case side1 => repeat (first | exact (Kd.C_below HR0_2.out HB.out) | (with_reducible refine Kd.C_alloc ?_ _) | (with_reducible refine Kd.C_drewN ?_ _) | (with_reducible refine Kd.C_drew ?_))); (case side2 => exact HC0_2.out); rintro e w24 ⟨v854, rfl, ho0, hb⟩; refine ⟨_, rfl, ?_⟩; have n0_ := Aside0.mk (Kd.R_lower ho0 (below_size (by repeat (first | (with_reducible first | exact HB.out | apply below_alloc | apply pw_below_drewN | apply below_drew1 | refine below_set ?_ GE848.out) | exact HB.out)))); have n1_ := Aside0.mk (blk_below (g := gb848) (o := .cells #[.int .i64 a0_0, .int .i64 a0_1, .slice A0_2 l0_2.length c0_2] 24 (0, 0)) (by (with_reducible repeat (first | refine blk_drewN ?_ _ | refine blk_drew ?_ | refine blk_alloc ?_ _)); exact BK848.out) hb); have n2_ := Aside0.mk (below_step (by repeat (first | (with_reducible first | exact HB.out | apply below_alloc | apply pw_below_drewN | apply below_drew1 | refine below_set ?_ GE848.out) | exact HB.out)) hb); clear BK848; clear HB; have HO855 := n0_; have BK848 := n1_; have HB := n2_; clear n0_ n1_ n2_; (try clear hb); (try clear hb2); (try clear hk); (try clear hi); (try clear ho0)) | ((with_reducible refine gate_callee (f := 42) rfl ?_); refine goesA_ (some 26) rfl rfl Try.func42 (by kernel_rfl) rfl #[.slice A1 l1.length c1] rfl ?_; (with_reducible refine (laws_toShotS.calls k _ _ l1 t856 _ ?side1 ?side2 A14.out).mono ?_); (case side1 => repeat (first | exact (Kd.C_below HR1.out HB.out) | (with_reducible refine Kd.C_alloc ?_ _) | (with_reducible refine Kd.C_drewN ?_ _) | (with_reducible refine Kd.C_drew ?_))); (case side2 => exact HC1.out); rintro e w25 ⟨v857, rfl, ho0, hb⟩; refine ⟨_, rfl, ?_⟩; have n0_ := Aside0.mk (Kd.R_below (by (with_reducible repeat (first | apply Kd.R_alloc | apply Kd.R_drewN | apply Kd.R_drew)); exact HO855.out) hb); have n1_ := Aside0.mk (Kd.R_lower ho0 (below_size (by repeat (first | (with_reducible first | exact HB.out | apply below_alloc | apply pw_below_drewN | apply below_drew1 | refine below_set ?_ GE848.out) | exact HB.out)))); have n2_ := Aside0.mk (blk_below (g := gb848) (o := .cells #[.int .i64 a0_0, .int .i64 a0_1, .slice A0_2 l0_2.length c0_2] 24 (0, 0)) (by (with_reducible repeat (first | refine blk_drewN ?_ _ | refine blk_drew ?_ | refine blk_alloc ?_ _)); exact BK848.out) hb); have n3_ := Aside0.mk (below_step (by repeat (first | (with_reducible first | exact HB.out | apply below_alloc | apply pw_below_drewN | apply below_drew1 | refine below_set ?_ GE848.out) | exact HB.out)) hb); clear HO855; clear BK848; clear HB; have HO855 := n0_; have HO858 := n1_; have BK848 := n2_; have HB := n3_; clear n0_ n1_ n2_ n3_; (try clear hb); (try clear hb2); (try clear hk); (try clear hi); (try clear ho0); obtain ⟨Ao26, co26, eo26⟩ := Kd.R_slice HO855.out; subst eo26; obtain ⟨Ao27, co27, eo27⟩ := Kd.R_slice HO858.out; subst eo27) | ((with_reducible refine gate_callee (f := 45) rfl ?_); refine goesA_ (some 27) rfl rfl Try.func45 (by kernel_rfl) rfl #[.agg #[.int .i64 t851, .int .i64 t852, .slice Ao26 t853.length co26], .slice Ao27 t856.length co27] rfl ?_; (with_reducible refine (spec_CountAgreeing.calls k t851 t852 _ _ t853 _ _ t856 t859 t860 _ ?side1 ?side2 ?side3 ?side4 A15.out).mono ?_); (case side1 => repeat (first | exact (Kd.R_reads' HO855.out).2.2 | (with_reducible refine Kd.C_alloc ?_ _) | (with_reducible refine Kd.C_drewN ?_ _) | (with_reducible refine Kd.C_drew ?_))); (case side2 => exact (Kd.R_reads' HO855.out).2.1); (case side3 => repeat (first | exact (Kd.R_reads' HO858.out).2.2 | (with_reducible refine Kd.C_alloc ?_ _) | (with_reducible refine Kd.C_drewN ?_ _) | (with_reducible refine Kd.C_drew ?_))); (case side4 => exact (Kd.R_reads' HO858.out).2.1); rintro e w28 ⟨rfl, hb⟩; refine ⟨_, rfl, ?_⟩; have n0_ := Aside0.mk (Kd.R_below (by (with_reducible repeat (first | apply Kd.R_alloc | apply Kd.R_drewN | apply Kd.R_drew)); exact HO855.out) hb); have n1_ := Aside0.mk (Kd.R_below (by (with_reducible repeat (first | apply Kd.R_alloc | apply Kd.R_drewN | apply Kd.R_drew)); exact HO858.out) hb); have n2_ := Aside0.mk (blk_below (g := gb848) (o := .cells #[.int .i64 a0_0, .int .i64 a0_1, .slice A0_2 l0_2.length c0_2] 24 (0, 0)) (by (with_reducible repeat (first | refine blk_drewN ?_ _ | refine blk_drew ?_ | refine blk_alloc ?_ _)); exact BK848.out) hb); have n3_ := Aside0.mk (below_step (by repeat (first | (with_reducible first | exact HB.out | apply below_alloc | apply pw_below_drewN | apply below_drew1 | refine below_set ?_ GE848.out) | exact HB.out)) hb); clear HO855; clear HO858; clear BK848; clear HB; have HO855 := n0_; have HO858 := n1_; have BK848 := n2_; have HB := n3_; clear n0_ n1_ n2_ n3_; (try clear hb); (try clear hb2); (try clear hk); (try clear hi); have hcz29_0 : w28.cell? ⟨gb848, 0, none⟩ = some (.int .i64 a0_0) := (blk_cell BK848.out 0).trans rfl; have hcz29_1 : w28.cell? ⟨gb848, 1, none⟩ = some (.int .i64 a0_1) := (blk_cell BK848.out 1).trans rfl; have hcz29_2 : w28.cell? ⟨gb848, 2, none⟩ = some (.slice A0_2 l0_2.length c0_2) := (blk_cell BK848.out 2).trans rfl; have hfz29_0 := blk_frozen BK848.out 0; have hfz29_1 := blk_frozen BK848.out 1; have hfz29_2 := blk_frozen BK848.out 2) | ((with_reducible refine gate_callee (f := 17) rfl ?_); refine goesA_ (some 31) rfl rfl Try.func17 (by kernel_rfl) rfl #[.agg #[.int .i64 a0_0, .int .i64 a0_1, .slice A0_2 l0_2.length c0_2]] rfl ?_; (with_reducible refine (laws_toSea.calls k a0_0 a0_1 _ _ l0_2 t861 t862 t863 _ ?side1 ?side2 A16.out).mono ?_); (case side1 => repeat (first | exact (Kd.C_below HR0_2.out HB.out) | (with_reducible refine Kd.C_alloc ?_ _) | (with_reducible refine Kd.C_drewN ?_ _) | (with_reducible refine Kd.C_drew ?_))); (case side2 => exact HC0_2.out); rintro e w30 ⟨v864, rfl, ho0, hb⟩; refine ⟨_, rfl, ?_⟩; have n0_ := Aside0.mk (Kd.R_elder' (by (with_reducible repeat (first | apply Kd.R_alloc | apply Kd.R_drewN | apply Kd.R_drew)); exact HO855.out) (Kd.R_base ho0) hb); have n1_ := Aside0.mk (Kd.R_below (by (with_reducible repeat (first | apply Kd.R_alloc | apply Kd.R_drewN | apply Kd.R_drew)); exact HO858.out) hb); have n2_ := Aside0.mk (Kd.R_lower (Kd.R_new' ho0 (Kd.R_lt (by (with_reducible repeat (first | apply Kd.R_alloc | apply Kd.R_drewN | apply Kd.R_drew)); exact HO855.out))) (below_size (by repeat (first | (with_reducible first | exact HB.out | apply below_alloc | apply pw_below_drewN | apply below_drew1 | refine below_set ?_ GE848.out) | exact HB.out)))); have n3_ := Aside0.mk (blk_below (g := gb848) (o := .cells #[.int .i64 a0_0, .int .i64 a0_1, .slice A0_2 l0_2.length c0_2] 24 (0, 0)) (by (with_reducible repeat (first | refine blk_drewN ?_ _ | refine blk_drew ?_ | refine blk_alloc ?_ _)); exact BK848.out) hb); have n4_ := Aside0.mk (below_step (by repeat (first | (with_reducible first | exact HB.out | apply below_alloc | apply pw_below_drewN | apply below_drew1 | refine below_set ?_ GE848.out) | exact HB.out)) hb); clear HO855; clear HO858; clear BK848; clear HB; have HO855 := n0_; have HO858 := n1_; have HO865 := n2_; have BK848 := n3_; have HB := n4_; clear n0_ n1_ n2_ n3_ n4_; (try clear hb); (try clear hb2); (try clear hk); (try clear hi); (try clear ho0)) | ((with_reducible refine gate_dst (N := 8) rfl ?_); refine box_event ?hg (N := 8) ?hd (cs := #[.int .i64 0, .int .i64 0, .slice none 0 0]) (t := 28) ?hr ?_; (case hd => rfl); (case hg => rfl); (case hr => first | (go_simp; done) | (go_simp; rfl)); intro gb866 hg w31 hbox hb; have n0_ := Aside0.mk (Kd.R_below (by (with_reducible repeat (first | apply Kd.R_alloc | apply Kd.R_drewN | apply Kd.R_drew)); exact HO855.out) hb); have n1_ := Aside0.mk (Kd.R_below (by (with_reducible repeat (first | apply Kd.R_alloc | apply Kd.R_drewN | apply Kd.R_drew)); exact HO858.out) hb); have n2_ := Aside0.mk (Kd.R_below (by (with_reducible repeat (first | apply Kd.R_alloc | apply Kd.R_drewN | apply Kd.R_drew)); exact HO865.out) hb); have n3_ := Aside0.mk (blk_below (g := gb848) (o := .cells #[.int .i64 a0_0, .int .i64 a0_1, .slice A0_2 l0_2.length c0_2] 24 (0, 0)) (by (with_reducible repeat (first | refine blk_drewN ?_ _ | refine blk_drew ?_ | refine blk_alloc ?_ _)); exact BK848.out) hb); have n4_ := Aside0.mk (below_step (by repeat (first | (with_reducible first | exact HB.out | apply below_alloc | apply pw_below_drewN | apply below_drew1 | refine below_set ?_ GE848.out) | exact HB.out)) hb); have n5_ := Aside0.mk (hbox); have n6_ := Aside0.mk ((by rw [hg]; exact (below_size (by repeat (first | (with_reducible first | exact HB.out | apply below_alloc | apply pw_below_drewN | apply below_drew1 | refine below_set ?_ GE848.out) | exact HB.out))) : w.heap.size ≤ gb866)); have n7_ := Aside0.mk ((by rw [hg]; exact (below_size (by repeat (first | (with_reducible first | exact HB.out | apply below_alloc | apply pw_below_drewN | apply below_drew1 | refine below_set ?_ GE848.out) | exact HB.out))) : w.heap.size ≤ gb866)); have n8_ := Aside0.mk ((by rw [hg]; exact Nat.ne_of_lt (blk_lt (g := gb848) (o := .cells #[.int .i64 a0_0, .int .i64 a0_1, .slice A0_2 l0_2.length c0_2] 24 (0, 0)) (by (with_reducible repeat (first | refine blk_drewN ?_ _ | refine blk_drew ?_ | refine blk_alloc ?_ _)); exact BK848.out)) : gb848 ≠ gb866)); have n9_ := Aside0.mk ((by rw [hg]; exact Nat.ne_of_gt (blk_lt (g := gb848) (o := .cells #[.int .i64 a0_0, .int .i64 a0_1, .slice A0_2 l0_2.length c0_2] 24 (0, 0)) (by (with_reducible repeat (first | refine blk_drewN ?_ _ | refine blk_drew ?_ | refine blk_alloc ?_ _)); exact BK848.out)) : gb866 ≠ gb848)); clear HO855; clear HO858; clear HO865; clear BK848; clear HB; have HO855 := n0_; have HO858 := n1_; have HO865 := n2_; have BK848 := n3_; have HB := n4_; have BK866 := n5_; have GW866 := n6_; have GE866 := n7_; have NB848_866 := n8_; have NB866_848 := n9_; clear n0_ n1_ n2_ n3_ n4_ n5_ n6_ n7_ n8_ n9_; clear hb hbox hg; have hnb32 := NB866_848.out; have hnc32 := NB848_866.out; have hcz33_0 : w31.cell? ⟨gb866, 0, none⟩ = some (.int .i64 0) := (blk_cell BK866.out 0).trans rfl; have hcz33_1 : w31.cell? ⟨gb866, 1, none⟩ = some (.int .i64 0) := (blk_cell BK866.out 1).trans rfl; have hcz33_2 : w31.cell? ⟨gb866, 2, none⟩ = some (.slice none 0 0) := (blk_cell BK866.out 2).trans rfl; have hfz33_0 := blk_frozen BK866.out 0; have hfz33_1 := blk_frozen BK866.out 1; have hfz33_2 := blk_frozen BK866.out 2; obtain ⟨Ao34, co34, eo34⟩ := Kd.R_slice HO865.out; subst eo34) | ((with_reducible refine gate_callee (f := 42) rfl ?_); refine goesA_ (some 33) rfl rfl Try.func42 (by kernel_rfl) rfl #[.slice A1 l1.length c1] rfl ?_; (with_reducible refine (laws_toShotS.calls k _ _ l1 t867 _ ?side1 ?side2 A17.out).mono ?_); (case side1 => exact Kd.C_below HR1.out (by repeat (first | (with_reducible first | exact HB.out | apply below_alloc | apply pw_below_drewN | apply below_drew1 | refine below_set ?_ GE848.out | refine below_set ?_ GE866.out) | exact HB.out))); (case side2 => exact HC1.out); rintro e w35 ⟨v868, rfl, ho0, hb⟩; refine ⟨_, rfl, ?_⟩; have n0_ := Aside0.mk (Kd.R_below (by (with_reducible repeat (first | apply Kd.R_alloc | apply Kd.R_drewN | apply Kd.R_drew)); exact (Kd.R_mono (Kd.R_far (p := ⟨gb866, 2, none⟩) (Kd.R_far (p := ⟨gb866, 1, none⟩) (Kd.R_far (p := ⟨gb866, 0, none⟩) (Kd.R_types HO855.out BK866.out (by decide)) (fun _ hk => hk.2) (.int .i64 t861)) (fun _ hk => hk.2) (.int .i64 t862)) (fun _ hk => hk.2) (.slice Ao34 t863.length co34)) (fun _ h_ => h_.1))) hb); have n1_ := Aside0.mk (Kd.R_elder' (by (with_reducible repeat (first | apply Kd.R_alloc | apply Kd.R_drewN | apply Kd.R_drew)); exact (Kd.R_mono (Kd.R_far (p := ⟨gb866, 2, none⟩) (Kd.R_far (p := ⟨gb866, 1, none⟩) (Kd.R_far (p := ⟨gb866, 0, none⟩) (Kd.R_types HO858.out BK866.out (by decide)) (fun _ hk => hk.2) (.int .i64 t861)) (fun _ hk => hk.2) (.int .i64 t862)) (fun _ hk => hk.2) (.slice Ao34 t863.length co34)) (fun _ h_ => h_.1))) (Kd.R_base ho0) hb); have n2_ := Aside0.mk (Kd.R_below (by (with_reducible repeat (first | apply Kd.R_alloc | apply Kd.R_drewN | apply Kd.R_drew)); exact (Kd.R_mono (Kd.R_far (p := ⟨gb866, 2, none⟩) (Kd.R_far (p := ⟨gb866, 1, none⟩) (Kd.R_far (p := ⟨gb866, 0, none⟩) (Kd.R_types HO865.out BK866.out (by decide)) (fun _ hk => hk.2) (.int .i64 t861)) (fun _ hk => hk.2) (.int .i64 t862)) (fun _ hk => hk.2) (.slice Ao34 t863.length co34)) (fun _ h_ => h_.1))) hb); have n3_ := Aside0.mk (Kd.R_lower (Kd.R_new' ho0 (Kd.R_lt (by (with_reducible repeat (first | apply Kd.R_alloc | apply Kd.R_drewN | apply Kd.R_drew)); exact (Kd.R_mono (Kd.R_far (p := ⟨gb866, 2, none⟩) (Kd.R_far (p := ⟨gb866, 1, none⟩) (Kd.R_far (p := ⟨gb866, 0, none⟩) (Kd.R_types HO858.out BK866.out (by decide)) (fun _ hk => hk.2) (.int .i64 t861)) (fun _ hk => hk.2) (.int .i64 t862)) (fun _ hk => hk.2) (.slice Ao34 t863.length co34)) (fun _ h_ => h_.1))))) (below_size (by repeat (first | (with_reducible first | exact HB.out | apply below_alloc | apply pw_below_drewN | apply below_drew1 | refine below_set ?_ GE848.out | refine below_set ?_ GE866.out) | exact HB.out)))); have n4_ := Aside0.mk (blk_below (g := gb848) (o := .cells #[.int .i64 a0_0, .int .i64 a0_1, .slice A0_2 l0_2.length c0_2] 24 (0, 0)) (by (with_reducible repeat (first | refine blk_drewN ?_ _ | refine blk_drew ?_ | refine blk_alloc ?_ _)); refine blk_far ?_ NB848_866.out _; (with_reducible repeat (first | refine blk_drewN ?_ _ | refine blk_drew ?_ | refine blk_alloc ?_ _)); refine blk_far ?_ NB848_866.out _; (with_reducible repeat (first | refine blk_drewN ?_ _ | refine blk_drew ?_ | refine blk_alloc ?_ _)); refine blk_far ?_ NB848_866.out _; (with_reducible repeat (first | refine blk_drewN ?_ _ | refine blk_drew ?_ | refine blk_alloc ?_ _)); exact BK848.out) hb); have n5_ := Aside0.mk (blk_below (g := gb866) (o := .cells #[.int .i64 t861, .int .i64 t862, .slice Ao34 t863.length co34] 28 (0, 0)) (by (with_reducible repeat (first | refine blk_drewN ?_ _ | refine blk_drew ?_ | refine blk_alloc ?_ _)); refine blk_put (cs := #[.int .i64 t861, .int .i64 t862, .slice none 0 0]) ?_ 2 _ rfl; (with_reducible repeat (first | refine blk_drewN ?_ _ | refine blk_drew ?_ | refine blk_alloc ?_ _)); refine blk_put (cs := #[.int .i64 t861, .int .i64 0, .slice none 0 0]) ?_ 1 _ rfl; (with_reducible repeat (first | refine blk_drewN ?_ _ | refine blk_drew ?_ | refine blk_alloc ?_ _)); refine blk_put (cs := #[.int .i64 0, .int .i64 0, .slice none 0 0]) ?_ 0 _ rfl; (with_reducible repeat (first | refine blk_drewN ?_ _ | refine blk_drew ?_ | refine blk_alloc ?_ _)); exact BK866.out) hb); have n6_ := Aside0.mk (below_step (by repeat (first | (with_reducible first | exact HB.out | apply below_alloc | apply pw_below_drewN | apply below_drew1 | refine below_set ?_ GE848.out | refine below_set ?_ GE866.out) | exact HB.out)) hb); clear HO855; clear HO858; clear HO865; clear BK848; clear BK866; clear HB; have HO855 := n0_; have HO858 := n1_; have HO865 := n2_; have HO869 := n3_; have BK848 := n4_; have BK866 := n5_; have HB := n6_; clear n0_ n1_ n2_ n3_ n4_ n5_ n6_; (try clear hb); (try clear hb2); (try clear hk); (try clear hi); (try clear ho0); have hcz36_0 : w35.cell? ⟨gb866, 0, none⟩ = some (.int .i64 t861) := (blk_cell BK866.out 0).trans rfl; have hcz36_1 : w35.cell? ⟨gb866, 1, none⟩ = some (.int .i64 t862) := (blk_cell BK866.out 1).trans rfl; have hcz36_2 : w35.cell? ⟨gb866, 2, none⟩ = some (.slice Ao34 t863.length co34) := (blk_cell BK866.out 2).trans rfl; have hfz36_0 := blk_frozen BK866.out 0; have hfz36_1 := blk_frozen BK866.out 1; have hfz36_2 := blk_frozen BK866.out 2; obtain ⟨Ao37, co37, eo37⟩ := Kd.R_slice HO869.out; subst eo37) | ((with_reducible refine gate_callee (f := 46) rfl ?_); refine goesA_ (some 37) rfl rfl Try.func46 (by kernel_rfl) rfl #[.agg #[.int .i64 t861, .int .i64 t862, .slice Ao34 t863.length co34], .slice Ao37 t867.length co37] rfl ?_; (with_reducible refine (impl_CountAgreeing.calls k t861 t862 _ _ t863 _ _ t867 t870 t871 _ ?side1 ?side2 ?side3 ?side4 A18.out).mono ?_); (case side1 => repeat (first | exact (Kd.R_reads' HO865.out).2.2 | (with_reducible refine Kd.C_alloc ?_ _) | (with_reducible refine Kd.C_drewN ?_ _) | (with_reducible refine Kd.C_drew ?_))); (case side2 => exact (Kd.R_reads' HO865.out).2.1); (case side3 => repeat (first | exact (Kd.R_reads' HO869.out).2.2 | (with_reducible refine Kd.C_alloc ?_ _) | (with_reducible refine Kd.C_drewN ?_ _) | (with_reducible refine Kd.C_drew ?_))); (case side4 => exact (Kd.R_reads' HO869.out).2.1); rintro e w38 ⟨rfl, hb⟩; refine ⟨_, rfl, ?_⟩; have n0_ := Aside0.mk (Kd.R_below (by (with_reducible repeat (first | apply Kd.R_alloc | apply Kd.R_drewN | apply Kd.R_drew)); exact HO855.out) hb); have n1_ := Aside0.mk (Kd.R_below (by (with_reducible repeat (first | apply Kd.R_alloc | apply Kd.R_drewN | apply Kd.R_drew)); exact HO858.out) hb); have n2_ := Aside0.mk (Kd.R_below (by (with_reducible repeat (first | apply Kd.R_alloc | apply Kd.R_drewN | apply Kd.R_drew)); exact HO865.out) hb); have n3_ := Aside0.mk (Kd.R_below (by (with_reducible repeat (first | apply Kd.R_alloc | apply Kd.R_drewN | apply Kd.R_drew)); exact HO869.out) hb); have n4_ := Aside0.mk (blk_below (g := gb848) (o := .cells #[.int .i64 a0_0, .int .i64 a0_1, .slice A0_2 l0_2.length c0_2] 24 (0, 0)) (by (with_reducible repeat (first | refine blk_drewN ?_ _ | refine blk_drew ?_ | refine blk_alloc ?_ _)); exact BK848.out) hb); have n5_ := Aside0.mk (blk_below (g := gb866) (o := .cells #[.int .i64 t861, .int .i64 t862, .slice Ao34 t863.length co34] 28 (0, 0)) (by (with_reducible repeat (first | refine blk_drewN ?_ _ | refine blk_drew ?_ | refine blk_alloc ?_ _)); exact BK866.out) hb); have n6_ := Aside0.mk (below_step (by repeat (first | (with_reducible first | exact HB.out | apply below_alloc | apply pw_below_drewN | apply below_drew1 | refine below_set ?_ GE848.out | refine below_set ?_ GE866.out) | exact HB.out)) hb); clear HO855; clear HO858; clear HO865; clear HO869; clear BK848; clear BK866; clear HB; have HO855 := n0_; have HO858 := n1_; have HO865 := n2_; have HO869 := n3_; have BK848 := n4_; have BK866 := n5_; have HB := n6_; clear n0_ n1_ n2_ n3_ n4_ n5_ n6_; (try clear hb); (try clear hb2); (try clear hk); (try clear hi)))
   (try simp only [Act.put, List.setIfInBounds_toArray, List.set_cons_zero, List.set_cons_succ])
   go_cut [47] (fun v47 wc => ∃ (kq : Nat) (x47_18 : Bool), v47 = .bool x47_18 ∧ Aside0 (laws_FnExactCountAgreeing.j0 kq l1 t867 x47_18 a0_0 a0_1 l0_2 t861 t862 t863 = some true) ∧ Aside0 (kq ≤ k) ∧ Aside0 (Kd.R k93 93 wc w.heap.size (fun _ => True) (.slice Ao37 t867.length co37) t867) ∧ Aside0 (Kd.R (Kd.int .i64) 2 wc w.heap.size (fun _ => True) (.slice Ao34 t863.length co34) t863) ∧ Aside0 (wc.heap[gb848]? = some (.cells #[.int .i64 a0_0, .int .i64 a0_1, (.slice A0_2 l0_2.length c0_2)] 24 (0, 0))) ∧ Aside0 (wc.heap[gb866]? = some (.cells #[.int .i64 t861, .int .i64 t862, (.slice Ao34 t863.length co34)] 28 (0, 0))) ∧ Aside0 (Below w.heap.size w wc))
   case first =>
    have H := HC19.out
    clear HC19
    by_cases c39 : t870 = t859
    ·rw [if_pos c39] at H
     have c39b0 : (t870 == t859) = true := beq_iff_eq.mpr c39
     have c39b1 : (t870 != t859) = false := bne_eq_false_iff_eq.mpr c39
     clear c39
     (first | rw [c39b0] | (simp only [i64_w, i32_w]; rw [c39b0]) | skip)
     have H' := Aside0.mk H
     clear H
     go_wp2
     go_meet
     case rel => exact ⟨_, ((t871 != t860)), (by first | rfl | (simp; done) | (simp [*]; done)), H', ⟨by first | omega | exact Nat.le_refl _⟩, ⟨by (with_reducible repeat (first | apply Kd.R_alloc | apply Kd.R_drewN | apply Kd.R_drew)); exact Kd.R_mono HO869.out (fun _ hk => trivial)⟩, ⟨by (with_reducible repeat (first | apply Kd.R_alloc | apply Kd.R_drewN | apply Kd.R_drew)); exact Kd.R_mono HO865.out (fun _ hk => trivial)⟩, ⟨by (with_reducible repeat (first | refine blk_drewN ?_ _ | refine blk_drew ?_ | refine blk_alloc ?_ _)); exact BK848.out⟩, ⟨by (with_reducible repeat (first | refine blk_drewN ?_ _ | refine blk_drew ?_ | refine blk_alloc ?_ _)); exact BK866.out⟩, ⟨by repeat (first | (with_reducible first | exact HB.out | apply below_alloc | apply pw_below_drewN | apply below_drew1 | refine below_set ?_ GE848.out | refine below_set ?_ GE866.out) | exact HB.out)⟩⟩
    ·rw [if_neg c39] at H
     have c39b0 : (t870 == t859) = false := beq_eq_false_iff_ne.mpr c39
     have c39b1 : (t870 != t859) = true := bne_iff_ne.mpr c39
     (first | rw [c39b0] | (simp only [i64_w, i32_w]; rw [c39b0]) | skip)
     have H' := Aside0.mk H
     clear H
     go_wp2
     go_meet
     case rel => exact ⟨_, (true), (by first | rfl | (simp; done) | (simp [*]; done)), H', ⟨by first | omega | exact Nat.le_refl _⟩, ⟨by (with_reducible repeat (first | apply Kd.R_alloc | apply Kd.R_drewN | apply Kd.R_drew)); exact Kd.R_mono HO869.out (fun _ hk => trivial)⟩, ⟨by (with_reducible repeat (first | apply Kd.R_alloc | apply Kd.R_drewN | apply Kd.R_drew)); exact Kd.R_mono HO865.out (fun _ hk => trivial)⟩, ⟨by (with_reducible repeat (first | refine blk_drewN ?_ _ | refine blk_drew ?_ | refine blk_alloc ?_ _)); exact BK848.out⟩, ⟨by (with_reducible repeat (first | refine blk_drewN ?_ _ | refine blk_drew ?_ | refine blk_alloc ?_ _)); exact BK866.out⟩, ⟨by repeat (first | (with_reducible first | exact HB.out | apply below_alloc | apply pw_below_drewN | apply below_drew1 | refine below_set ?_ GE848.out | refine below_set ?_ GE866.out) | exact HB.out)⟩⟩
   case rest =>
    clear HC19
    (try clear c1); (try clear p2); (try clear c3); (try clear c4); (try clear c4b0); (try clear c9); (try clear c9b0); (try clear c11); (try clear c15); (try clear c17); (try clear c32); (try clear c39); (try clear c39b0); (try clear c39b1); (try clear hcz11_0); (try clear hcz11_1); (try clear hcz11_2); (try clear hcz21_0); (try clear hcz21_1); (try clear hcz21_2); (try clear hcz23_0); (try clear hcz23_1); (try clear hcz23_2); (try clear hcz29_0); (try clear hcz29_1); (try clear hcz29_2); (try clear hcz33_0); (try clear hcz33_1); (try clear hcz33_2); (try clear hcz36_0); (try clear hcz36_1); (try clear hcz36_2); (try clear hcz6_0); (try clear hcz6_1); (try clear hcz6_2); (try clear hfz11_0); (try clear hfz11_1); (try clear hfz11_2); (try clear hfz21_0); (try clear hfz21_1); (try clear hfz21_2); (try clear hfz23_0); (try clear hfz23_1); (try clear hfz23_2); (try clear hfz29_0); (try clear hfz29_1); (try clear hfz29_2); (try clear hfz33_0); (try clear hfz33_1); (try clear hfz33_2); (try clear hfz36_0); (try clear hfz36_1); (try clear hfz36_2); (try clear hfz6_0); (try clear hfz6_1); (try clear hfz6_2)
    obtain ⟨kq, x47_18, rfl, HA, HJ18, HO_9, HO_867002, BK848, BK866, HB⟩ := hcut
    cases kq with
    | zero => exact absurd HA.out (by simp [laws_FnExactCountAgreeing.j0])
    | succ kj18 =>
     have H := HA.out
     clear HA
     simp only [laws_FnExactCountAgreeing.j0] at H
     by_cases c40 : x47_18 = true
     ·subst c40
      have H1 : (some false) = some true := by rw [if_pos rfl] at H; exact H
      clear H
      have H := H1
      clear H1
      exact absurd H (by simp)
     ·replace c40 := Bool.eq_false_iff.mpr c40
      subst c40
      have H1 : ((laws_toSea.f kj18 a0_0 a0_1 l0_2).bind fun bt872 => ((laws_eqSea.f kj18 t861 t862 t863 bt872.1 bt872.2.1 bt872.2.2).bind fun t877 => (if t877 = true then ((laws_toShotS.f kj18 l1).bind fun t878 => ((laws_eqShotS.f kj18 t867 t878).bind fun t881 => (if t881 = true then (some true) else (some false)))) else (some false)))) = some true := by rw [if_neg (show ¬ (false = true) by decide)] at H; exact H
      clear H
      have H := H1
      clear H1
      replace H := Option.bind_eq_some_iff.mp H
      obtain ⟨⟨t872, t873, t874⟩, A410, H⟩ := H
      replace H : ((laws_eqSea.f kj18 t861 t862 t863 t872 t873 t874).bind fun t877 => (if t877 = true then ((laws_toShotS.f kj18 l1).bind fun t878 => ((laws_eqShotS.f kj18 t867 t878).bind fun t881 => (if t881 = true then (some true) else (some false)))) else (some false))) = some true := H
      have A41 := Aside0.mk A410
      clear A410
      replace H := Option.bind_eq_some_iff.mp H
      obtain ⟨t877, A420, H⟩ := H
      replace H : (if t877 = true then ((laws_toShotS.f kj18 l1).bind fun t878 => ((laws_eqShotS.f kj18 t867 t878).bind fun t881 => (if t881 = true then (some true) else (some false)))) else (some false)) = some true := H
      have A42 := Aside0.mk A420
      clear A420
      by_cases c43 : t877 = true
      ·subst c43
       have H1 : ((laws_toShotS.f kj18 l1).bind fun t878 => ((laws_eqShotS.f kj18 t867 t878).bind fun t881 => (if t881 = true then (some true) else (some false)))) = some true := by rw [if_pos rfl] at H; exact H
       clear H
       have H := H1
       clear H1
       replace H := Option.bind_eq_some_iff.mp H
       obtain ⟨t878, A440, H⟩ := H
       replace H : ((laws_eqShotS.f kj18 t867 t878).bind fun t881 => (if t881 = true then (some true) else (some false))) = some true := H
       have A44 := Aside0.mk A440
       clear A440
       replace H := Option.bind_eq_some_iff.mp H
       obtain ⟨t881, A450, H⟩ := H
       replace H : (if t881 = true then (some true) else (some false)) = some true := H
       have A45 := Aside0.mk A450
       clear A450
       by_cases c46 : t881 = true
       ·subst c46
        have H1 : (some true) = some true := rfl
        clear H
        have H := H1
        clear H1
        clear H
        try go_wp2
        have n0_ := Aside0.mk (Kd.R_drew HO_9.out)
        have n1_ := Aside0.mk (Kd.R_drew HO_867002.out)
        have n2_ := Aside0.mk (blk_drew BK848.out)
        have n3_ := Aside0.mk (blk_drew BK866.out)
        have n4_ := Aside0.mk (below_drew1 HB.out)
        clear HO_9
        clear HO_867002
        clear BK848
        clear BK866
        clear HB
        have HO_9 := n0_
        have HO_867002 := n1_
        have BK848 := n2_
        have BK866 := n3_
        have HB := n4_
        clear n0_ n1_ n2_ n3_ n4_
        refine start_ (n := 5) (S := fun w' => w'.cell? ⟨gb866, 0, none⟩ = some (.int .i64 t861) ∧ w'.cell? ⟨gb866, 1, none⟩ = some (.int .i64 t862) ∧ w'.cell? ⟨gb866, 2, none⟩ = some (.slice Ao34 t863.length co34) ∧ w'.cell? ⟨gb848, 0, none⟩ = some (.int .i64 a0_0) ∧ w'.cell? ⟨gb848, 1, none⟩ = some (.int .i64 a0_1) ∧ w'.cell? ⟨gb848, 2, none⟩ = some (.slice A0_2 l0_2.length c0_2)) (ds := []) #[false, false, false, false, false] (by kernel_rfl) rfl rfl ⟨(blk_cell BK866.out 0).trans rfl, (blk_cell BK866.out 1).trans rfl, (blk_cell BK866.out 2).trans rfl, (blk_cell BK848.out 0).trans rfl, (blk_cell BK848.out 1).trans rfl, (blk_cell BK848.out 2).trans rfl⟩ (fun hHeld => ?_)
        generalize wc.drew = w47 at HO_9 HO_867002 BK848 BK866 HB hHeld ⊢
        refine take_ (i := 0) (N := some 48) (v := ?_) (a' := ?_) #[true, false, false, false, false] rfl rfl (by kernel_rfl) (fun _ _ _ h => h) (Or.inl ⟨by rfl, ?_⟩) hHeld ?_ ?_
        rotate_left; (· (rintro w' ⟨s0, s1, s2, s3, s4, s5⟩; go_simp; with_reducible rfl)); rotate_left; (· (simp only [Act.put, sz_, s0_, s1_, i64_w, i32_w]; rfl))
        refine take_ (i := 1) (N := some 49) (v := ?_) (a' := ?_) #[true, true, false, false, false] rfl rfl (by kernel_rfl) (fun _ _ _ h => h) (Or.inl ⟨by rfl, ?_⟩) hHeld ?_ ?_
        rotate_left; (· (rintro w' ⟨s0, s1, s2, s3, s4, s5⟩; go_simp; with_reducible rfl)); rotate_left; (· (simp only [Act.put, sz_, s0_, s1_, i64_w, i32_w]; rfl))
        refine one_ (i := 2) (N := some 50) #[true, true, true, false, false] rfl rfl (by kernel_rfl) (by decide) (fun K hK => ?_)
        refine goes_ Try.func17 (by kernel_rfl) rfl #[.agg #[.int .i64 a0_0, .int .i64 a0_1, .slice A0_2 l0_2.length c0_2]] (by rfl) rfl rfl (by (try simp only [List.map_toArray, List.map_cons, List.map_nil]); first | done | rfl | (simp only [List.length_drop, List.length_take]; rfl)) ?_
        with_reducible refine (laws_toSea.calls kj18 a0_0 a0_1 _ _ l0_2 t872 t873 t874 _ ?side1 ?side2 A41.out).mono ?_
        (case side1 => repeat (first | exact (Kd.C_below HR0_2.out HB.out) | (with_reducible refine Kd.C_alloc ?_ _) | (with_reducible refine Kd.C_drewN ?_ _) | (with_reducible refine Kd.C_drew ?_)))
        (case side2 => exact HC0_2.out)
        rintro e w48 ⟨v875, rfl, ho0, hb⟩
        refine ⟨_, rfl, ?_⟩
        have n0_ := Aside0.mk (Kd.R_below (by (with_reducible repeat (first | apply Kd.R_alloc | apply Kd.R_drewN | apply Kd.R_drew)); exact HO_9.out) hb)
        have n1_ := Aside0.mk (Kd.R_elder' (by (with_reducible repeat (first | apply Kd.R_alloc | apply Kd.R_drewN | apply Kd.R_drew)); exact HO_867002.out) (Kd.R_base ho0) hb)
        have n2_ := Aside0.mk (Kd.R_lower (Kd.R_new' ho0 (Kd.R_lt (by (with_reducible repeat (first | apply Kd.R_alloc | apply Kd.R_drewN | apply Kd.R_drew)); exact HO_867002.out))) (below_size (by repeat (first | (with_reducible first | exact HB.out | apply below_alloc | apply pw_below_drewN | apply below_drew1 | refine below_set ?_ GE848.out | refine below_set ?_ GE866.out) | exact HB.out))))
        have n3_ := Aside0.mk (blk_below (g := gb848) (o := .cells #[.int .i64 a0_0, .int .i64 a0_1, .slice A0_2 l0_2.length c0_2] 24 (0, 0)) (by (with_reducible repeat (first | refine blk_drewN ?_ _ | refine blk_drew ?_ | refine blk_alloc ?_ _)); exact BK848.out) hb)
        have n4_ := Aside0.mk (blk_below (g := gb866) (o := .cells #[.int .i64 t861, .int .i64 t862, .slice Ao34 t863.length co34] 28 (0, 0)) (by (with_reducible repeat (first | refine blk_drewN ?_ _ | refine blk_drew ?_ | refine blk_alloc ?_ _)); exact BK866.out) hb)
        have n5_ := Aside0.mk (below_step (by repeat (first | (with_reducible first | exact HB.out | apply below_alloc | apply pw_below_drewN | apply below_drew1 | refine below_set ?_ GE848.out | refine below_set ?_ GE866.out) | exact HB.out)) hb)
        clear HO_9
        clear HO_867002
        clear BK848
        clear BK866
        clear HB
        have HO_9 := n0_
        have HO_867002 := n1_
        have HO876 := n2_
        have BK848 := n3_
        have BK866 := n4_
        have HB := n5_
        clear n0_ n1_ n2_ n3_ n4_ n5_
        (try clear hb)
        (try clear hb2)
        (try clear hk)
        (try clear hi)
        (try clear ho0)
        obtain ⟨Ao49, co49, eo49⟩ := Kd.R_slice HO876.out
        (first | subst eo49 | (injection eo49 with f1_ f2_ f3_; have f4_ := f1_.symm; have f5_ := f3_.symm; clear f1_ f2_ f3_; subst f4_; subst f5_))
        refine hK.out _ _ ⟨(blk_cell BK866.out 0).trans rfl, (blk_cell BK866.out 1).trans rfl, (blk_cell BK866.out 2).trans rfl, (blk_cell BK848.out 0).trans rfl, (blk_cell BK848.out 1).trans rfl, (blk_cell BK848.out 2).trans rfl⟩ (fun hHeld => ?_)
        clear hK K
        refine norm_ (a' := ?_) ?_ ?_
        rotate_left
        ·show Act.put _ (some 50) _ = _
         simp only [Act.put, sz_, s0_, s1_, i64_w, i32_w]
         rfl
        refine one_ (i := 3) (N := some 51) #[true, true, true, true, false] rfl rfl (by kernel_rfl) (by decide) (fun K hK => ?_)
        refine goes_ Try.func20 (by kernel_rfl) rfl #[.agg #[.int .i64 t861, .int .i64 t862, .slice Ao34 t863.length co34], .agg #[.int .i64 t872, .int .i64 t873, .slice Ao49 t874.length co49]] (by rfl) rfl rfl (by (try simp only [List.map_toArray, List.map_cons, List.map_nil]); first | done | rfl | (simp only [List.length_drop, List.length_take]; rfl)) ?_
        with_reducible refine (laws_eqSea.calls kj18 t861 t862 _ _ t863 t872 t873 _ _ t874 true _ ?side1 ?side2 ?side3 ?side4 A42.out).mono ?_
        (case side1 => repeat (first | exact (Kd.R_reads' HO_867002.out).2.2 | (with_reducible refine Kd.C_alloc ?_ _) | (with_reducible refine Kd.C_drewN ?_ _) | (with_reducible refine Kd.C_drew ?_)))
        (case side2 => exact (Kd.R_reads' HO_867002.out).2.1)
        (case side3 => repeat (first | exact (Kd.R_reads' HO876.out).2.2 | (with_reducible refine Kd.C_alloc ?_ _) | (with_reducible refine Kd.C_drewN ?_ _) | (with_reducible refine Kd.C_drew ?_)))
        (case side4 => exact (Kd.R_reads' HO876.out).2.1)
        rintro e w50 ⟨rfl, hb⟩
        refine ⟨_, rfl, ?_⟩
        have n0_ := Aside0.mk (Kd.R_below (by (with_reducible repeat (first | apply Kd.R_alloc | apply Kd.R_drewN | apply Kd.R_drew)); exact HO_9.out) hb)
        have n1_ := Aside0.mk (Kd.R_below (by (with_reducible repeat (first | apply Kd.R_alloc | apply Kd.R_drewN | apply Kd.R_drew)); exact HO_867002.out) hb)
        have n2_ := Aside0.mk (Kd.R_below (by (with_reducible repeat (first | apply Kd.R_alloc | apply Kd.R_drewN | apply Kd.R_drew)); exact HO876.out) hb)
        have n3_ := Aside0.mk (blk_below (g := gb848) (o := .cells #[.int .i64 a0_0, .int .i64 a0_1, .slice A0_2 l0_2.length c0_2] 24 (0, 0)) (by (with_reducible repeat (first | refine blk_drewN ?_ _ | refine blk_drew ?_ | refine blk_alloc ?_ _)); exact BK848.out) hb)
        have n4_ := Aside0.mk (blk_below (g := gb866) (o := .cells #[.int .i64 t861, .int .i64 t862, .slice Ao34 t863.length co34] 28 (0, 0)) (by (with_reducible repeat (first | refine blk_drewN ?_ _ | refine blk_drew ?_ | refine blk_alloc ?_ _)); exact BK866.out) hb)
        have n5_ := Aside0.mk (below_step (by repeat (first | (with_reducible first | exact HB.out | apply below_alloc | apply pw_below_drewN | apply below_drew1 | refine below_set ?_ GE848.out | refine below_set ?_ GE866.out) | exact HB.out)) hb)
        clear HO_9
        clear HO_867002
        clear HO876
        clear BK848
        clear BK866
        clear HB
        have HO_9 := n0_
        have HO_867002 := n1_
        have HO876 := n2_
        have BK848 := n3_
        have BK866 := n4_
        have HB := n5_
        clear n0_ n1_ n2_ n3_ n4_ n5_
        (try clear hb)
        (try clear hb2)
        (try clear hk)
        (try clear hi)
        refine hK.out _ _ ⟨(blk_cell BK866.out 0).trans rfl, (blk_cell BK866.out 1).trans rfl, (blk_cell BK866.out 2).trans rfl, (blk_cell BK848.out 0).trans rfl, (blk_cell BK848.out 1).trans rfl, (blk_cell BK848.out 2).trans rfl⟩ (fun hHeld => ?_)
        clear hK K
        refine norm_ (a' := ?_) ?_ ?_
        rotate_left
        ·show Act.put _ (some 51) _ = _
         simp only [Act.put, sz_, s0_, s1_, i64_w, i32_w]
         rfl
        refine pure_ (i := 4) (N := some 52) (v := ?_) (a' := ?_) #[true, true, true, true, true] rfl rfl (by kernel_rfl) (fun _ _ _ h => h) (Or.inl ⟨by rfl, ?_⟩) ?_ ?_
        rotate_left; (· (intro w'; go_simp; with_reducible rfl)); rotate_left; (· (simp only [Act.put, sz_, s0_, s1_, i64_w, i32_w]; rfl))
        refine done_ (by kernel_rfl) ?_
        try go_wp2_with (first | ((with_reducible refine gate_callee (f := 42) rfl ?_); refine goesA_ (some 55) rfl rfl Try.func42 (by kernel_rfl) rfl #[.slice A1 l1.length c1] rfl ?_; (with_reducible refine (laws_toShotS.calls kj18 _ _ l1 t878 _ ?side1 ?side2 A44.out).mono ?_); (case side1 => repeat (first | exact (Kd.C_below HR1.out HB.out) | (with_reducible refine Kd.C_alloc ?_ _) | (with_reducible refine Kd.C_drewN ?_ _) | (with_reducible refine Kd.C_drew ?_))); (case side2 => exact HC1.out); rintro e w51 ⟨v879, rfl, ho0, hb⟩; refine ⟨_, rfl, ?_⟩; have n0_ := Aside0.mk (Kd.R_elder' (by (with_reducible repeat (first | apply Kd.R_alloc | apply Kd.R_drewN | apply Kd.R_drew)); exact HO_9.out) (Kd.R_base ho0) hb); have n1_ := Aside0.mk (Kd.R_below (by (with_reducible repeat (first | apply Kd.R_alloc | apply Kd.R_drewN | apply Kd.R_drew)); exact HO_867002.out) hb); have n2_ := Aside0.mk (Kd.R_below (by (with_reducible repeat (first | apply Kd.R_alloc | apply Kd.R_drewN | apply Kd.R_drew)); exact HO876.out) hb); have n3_ := Aside0.mk (Kd.R_lower (Kd.R_new' ho0 (Kd.R_lt (by (with_reducible repeat (first | apply Kd.R_alloc | apply Kd.R_drewN | apply Kd.R_drew)); exact HO_9.out))) (below_size (by repeat (first | (with_reducible first | exact HB.out | apply below_alloc | apply pw_below_drewN | apply below_drew1 | refine below_set ?_ GE848.out | refine below_set ?_ GE866.out) | exact HB.out)))); have n4_ := Aside0.mk (blk_below (g := gb848) (o := .cells #[.int .i64 a0_0, .int .i64 a0_1, .slice A0_2 l0_2.length c0_2] 24 (0, 0)) (by (with_reducible repeat (first | refine blk_drewN ?_ _ | refine blk_drew ?_ | refine blk_alloc ?_ _)); exact BK848.out) hb); have n5_ := Aside0.mk (blk_below (g := gb866) (o := .cells #[.int .i64 t861, .int .i64 t862, .slice Ao34 t863.length co34] 28 (0, 0)) (by (with_reducible repeat (first | refine blk_drewN ?_ _ | refine blk_drew ?_ | refine blk_alloc ?_ _)); exact BK866.out) hb); have n6_ := Aside0.mk (below_step (by repeat (first | (with_reducible first | exact HB.out | apply below_alloc | apply pw_below_drewN | apply below_drew1 | refine below_set ?_ GE848.out | refine below_set ?_ GE866.out) | exact HB.out)) hb); clear HO_9; clear HO_867002; clear HO876; clear BK848; clear BK866; clear HB; have HO_9 := n0_; have HO_867002 := n1_; have HO876 := n2_; have HO880 := n3_; have BK848 := n4_; have BK866 := n5_; have HB := n6_; clear n0_ n1_ n2_ n3_ n4_ n5_ n6_; (try clear hb); (try clear hb2); (try clear hk); (try clear hi); (try clear ho0); obtain ⟨Ao52, co52, eo52⟩ := Kd.R_slice HO880.out; subst eo52) | ((with_reducible refine gate_callee (f := 44) rfl ?_); refine goesA_ (some 56) rfl rfl Try.func44 (by kernel_rfl) rfl #[.slice Ao37 t867.length co37, .slice Ao52 t878.length co52] rfl ?_; (with_reducible refine (laws_eqShotS.calls kj18 _ _ t867 _ _ t878 true _ ?side1 ?side2 ?side3 ?side4 A45.out).mono ?_); (case side1 => repeat (first | exact (Kd.R_reads' HO_9.out).2.2 | (with_reducible refine Kd.C_alloc ?_ _) | (with_reducible refine Kd.C_drewN ?_ _) | (with_reducible refine Kd.C_drew ?_))); (case side2 => exact (Kd.R_reads' HO_9.out).2.1); (case side3 => repeat (first | exact (Kd.R_reads' HO880.out).2.2 | (with_reducible refine Kd.C_alloc ?_ _) | (with_reducible refine Kd.C_drewN ?_ _) | (with_reducible refine Kd.C_drew ?_))); (case side4 => exact (Kd.R_reads' HO880.out).2.1); rintro e w53 ⟨rfl, hb⟩; refine ⟨_, rfl, ?_⟩; have n0_ := Aside0.mk (Kd.R_below (by (with_reducible repeat (first | apply Kd.R_alloc | apply Kd.R_drewN | apply Kd.R_drew)); exact HO_9.out) hb); have n1_ := Aside0.mk (Kd.R_below (by (with_reducible repeat (first | apply Kd.R_alloc | apply Kd.R_drewN | apply Kd.R_drew)); exact HO_867002.out) hb); have n2_ := Aside0.mk (Kd.R_below (by (with_reducible repeat (first | apply Kd.R_alloc | apply Kd.R_drewN | apply Kd.R_drew)); exact HO876.out) hb); have n3_ := Aside0.mk (Kd.R_below (by (with_reducible repeat (first | apply Kd.R_alloc | apply Kd.R_drewN | apply Kd.R_drew)); exact HO880.out) hb); have n4_ := Aside0.mk (blk_below (g := gb848) (o := .cells #[.int .i64 a0_0, .int .i64 a0_1, .slice A0_2 l0_2.length c0_2] 24 (0, 0)) (by (with_reducible repeat (first | refine blk_drewN ?_ _ | refine blk_drew ?_ | refine blk_alloc ?_ _)); exact BK848.out) hb); have n5_ := Aside0.mk (blk_below (g := gb866) (o := .cells #[.int .i64 t861, .int .i64 t862, .slice Ao34 t863.length co34] 28 (0, 0)) (by (with_reducible repeat (first | refine blk_drewN ?_ _ | refine blk_drew ?_ | refine blk_alloc ?_ _)); exact BK866.out) hb); have n6_ := Aside0.mk (below_step (by repeat (first | (with_reducible first | exact HB.out | apply below_alloc | apply pw_below_drewN | apply below_drew1 | refine below_set ?_ GE848.out | refine below_set ?_ GE866.out) | exact HB.out)) hb); clear HO_9; clear HO_867002; clear HO876; clear HO880; clear BK848; clear BK866; clear HB; have HO_9 := n0_; have HO_867002 := n1_; have HO876 := n2_; have HO880 := n3_; have BK848 := n4_; have BK866 := n5_; have HB := n6_; clear n0_ n1_ n2_ n3_ n4_ n5_ n6_; (try clear hb); (try clear hb2); (try clear hk); (try clear hi)))
        go_ret
        exact ⟨by first | rfl | (simp [errW_none, errW_some] <;> rfl) | (simp [*, errW_none, errW_some] <;> rfl), by repeat (first | (with_reducible first | exact HB.out | apply below_alloc | apply pw_below_drewN | apply below_drew1 | refine below_set ?_ GE848.out | refine below_set ?_ GE866.out) | exact HB.out)⟩
       ·replace c46 := Bool.eq_false_iff.mpr c46
        subst c46
        have H1 : (some false) = some true := by rw [if_neg (show ¬ (false = true) by decide)] at H; exact H
        clear H
        have H := H1
        clear H1
        exact absurd H (by simp)
      ·replace c43 := Bool.eq_false_iff.mpr c43
       subst c43
       have H1 : (some false) = some true := by rw [if_neg (show ¬ (false = true) by decide)] at H; exact H
       clear H
       have H := H1
       clear H1
       exact absurd H (by simp)
-- The code of a sea and shots. (for 89 83)
-- specShots_ev implShots_ev first_one shotsIn diffL_iff
def shotsV (w h : Int) (l : List Int) (T : List S93) : Int := if seaV w h l = true then (if shotsOk (w.toNat * h.toNat) T = true then 0 else 2) else 1
theorem specShotsCode_ev (w h : Int) (l : List Int) (T : List S93) (hl : l.length ≤ 1048576) (hT : T.length ≤ 1048576) : Ev (fun k => spec_l09Shots.f k w h l T) (shotsV w h l T) := by
  have e1 := l09Is_ev w h l (by omega)
  unfold spec_l09Shots.f shotsV
  cases hs : seaV w h l with
  | false =>
    rw [hs] at e1
    rw [if_neg (by simp)]
    exact Ev.bind e1 (Ev.congr (fun k => by rw [if_neg (by simp)]) (Ev.now _))
  | true =>
    rw [hs] at e1
    obtain ⟨⟨wn, rfl, hw1, hw5⟩, ⟨hn', rfl, hh1, hh5⟩, _, h3⟩ := seaV_nat hs
    simp only [Int.toNat_natCast]
    rw [if_pos trivial]
    exact Ev.bind e1 (Ev.congr (fun k => by rw [if_pos rfl]) (specShots_ev rfl (place_small_ hw5 hh5) l T hT))
theorem implShotsCode_ev (w h : Int) (l : List Int) (T : List S93) (hl : l.length ≤ 1048576) (hT : T.length ≤ 1048576) : Ev (fun k => impl_shotsCode.f k w h l T) (shotsV w h l T) := by
  have e1 := implIsSea_ev w h l (by omega)
  unfold impl_shotsCode.f shotsV
  cases hs : seaV w h l with
  | false =>
    rw [hs] at e1
    rw [if_neg (by simp)]
    exact Ev.bind e1 (Ev.congr (fun k => by rw [if_neg (by simp)]) (Ev.now _))
  | true =>
    rw [hs] at e1
    obtain ⟨⟨wn, rfl, hw1, hw5⟩, ⟨hn', rfl, hh1, hh5⟩, _, h3⟩ := seaV_nat hs
    simp only [Int.toNat_natCast]
    rw [if_pos trivial]
    refine Ev.bind e1 (Ev.congr (fun k => by rw [if_pos rfl]) (Ev.bind (implShots_ev rfl (place_small_ hw5 hh5) l T hT) ?_))
    exact Ev.bind (first_one (shotsOk (wn * hn') T)) (Ev.now _)
theorem shotsV_zero {w h : Int} {l : List Int} {T : List S93} (hz : shotsV w h l T = 0) : seaV w h l = true ∧ shotsOk (w.toNat * h.toNat) T = true ∧ shotsIn T = true := by
  unfold shotsV at hz
  by_cases hs : seaV w h l = true
  · rw [if_pos hs] at hz
    by_cases hk : shotsOk (w.toNat * h.toNat) T = true
    · refine ⟨hs, hk, ?_⟩
      obtain ⟨⟨wn, rfl, hw1, hw5⟩, ⟨hn', rfl, hh1, hh5⟩, _, h3⟩ := seaV_nat hs
      unfold shotsOk at hk
      simp only [Bool.and_eq_true, Int.toNat_natCast] at hk
      have hin := ((diffL_iff _ _ 0).1 hk.2).1
      have h25 := place_small_ hw5 hh5
      refine List.all_eq_true.2 (fun x hx => ?_)
      have := hin x.f0 (List.mem_map.2 ⟨x, hx, rfl⟩)
      simp only [Bool.and_eq_true, decide_eq_true_eq]
      omega
    · rw [if_neg hk] at hz
      cases hz
  · rw [if_neg hs] at hz
    cases hz
/-- The one pure statement of laws_FnExactCountAgreeing. -/
def laws_FnExactCountAgreeing.Pure : Prop := ∀ (a0_0 : Int) (a0_1 : Int) (l0_2 : List Int) (l1 : List (S95)), (Lit.int .i64 a0_0).wf = true → (Lit.int .i64 a0_1).wf = true → (l0_2.length ≤ maxLen ∧ ∀ y13_ ∈ l0_2, (Lit.int .i64 y13_).wf = true) → (l1.length ≤ maxLen ∧ ∀ y14_ ∈ l1, ((Lit.int .i64 y14_.f0).wf = true ∧ (Lit.int .i64 y14_.f1).wf = true)) → ∃ k, laws_FnExactCountAgreeing.f k a0_0 a0_1 l0_2 l1 = some true
/-- A type's readings as data are values of a kind: what an argument of that type is, whatever it holds. -/
def Rdb {α : Type} (P : Program) (t : TypeId) (d : Kd α) (wf : α → Prop) : Prop :=
  ∀ (H : Type) (enc : TypeId × Value → H) (w : World) (base : Nat) (spare : Nat → Bool) (held : Bool) (fuel : Nat) (cs : List Value) (x : DataW H × List MemPlace),
    DataW.trod enc P w base spare held fuel t cs = some x → ∃ a : α, d.K w a cs ∧ wf a
theorem Rdb.int {P : Program} {t : TypeId} {k : IntKind} (ht : P.underlying t = some (.int k)) : Rdb P t (Kd.int k) (fun n => (Lit.int k n).wf = true) := by
  intro H enc w base spare held fuel cs x h
  obtain ⟨n, rfl, _, hw⟩ := DataW.trod_int ht h
  exact ⟨n, rfl, hw⟩
theorem Rdb.bool {P : Program} {t : TypeId} (ht : P.underlying t = some .bool) : Rdb P t Kd.bool (fun _ => True) := by
  intro H enc w base spare held fuel cs x h
  obtain ⟨n, rfl, _⟩ := DataW.trod_bool ht h
  exact ⟨n, rfl, trivial⟩
theorem Rdb.string {P : Program} {t : TypeId} (ht : P.underlying t = some .string) : Rdb P t Kd.string (fun s => s.size ≤ maxLen) := by
  intro H enc w base spare held fuel cs x h
  obtain ⟨s, rfl, _, hs⟩ := DataW.trod_string ht h
  exact ⟨s, rfl, hs⟩
theorem list_choose {α β : Type} {R : Nat → α → β → Prop} : ∀ (n : Nat) (xs : List α), xs.length = n → (∀ i x, xs[i]? = some x → ∃ y, R i x y) → ∃ ys : List β, ys.length = n ∧ ∀ i x y, xs[i]? = some x → ys[i]? = some y → R i x y := by
  intro n xs
  induction xs generalizing n R with
  | nil =>
    intro hl _
    exact ⟨[], by simpa using hl, by intro i x y h; simp at h⟩
  | cons x xs ih =>
    intro hl h
    obtain ⟨y, hy⟩ := h 0 x rfl
    obtain ⟨ys, h1, h2⟩ := ih (R := fun i a b => R (i + 1) a b) (n - 1) (by simp at hl; omega) (fun i a hi => h (i + 1) a (by simpa using hi))
    refine ⟨y :: ys, by simp at hl ⊢; omega, fun i a b ha hb => ?_⟩
    cases i with
    | zero =>
      simp at ha hb
      subst ha hb
      exact hy
    | succ i => exact h2 i a b (by simpa using ha) (by simpa using hb)
theorem Rdb.slice {α : Type} {P : Program} {t e : TypeId} {d : Kd α} {wf : α → Prop} (ht : P.underlying t = some (.slice e)) (hc : P.cellsOf e = d.sz) (h1 : 0 < d.sz) (r : Rdb P e d wf) :
    Rdb P t (Kd.slice e d) (fun l => l.length ≤ maxLen ∧ ∀ x ∈ l, wf x) := by
  intro H enc w base spare held fuel cs x h
  rcases DataW.trod_slice ht h with ⟨rfl, _⟩ | ⟨a, len, cap, elems, rest, n, _, rfl, _, hb, hl, hm, hlen, hel, _, _⟩
  · exact ⟨[], ⟨none, 0, rfl, by simp, Kd.C_nil _ _⟩, by simp, by simp⟩
  · have each : ∀ i (y : DataW H × List MemPlace), elems[i]? = some y → ∃ b : α, ∃ c, w.cells? base (a.add (i * P.cellsOf e)) (P.cellsOf e) = some c ∧ d.K w b c ∧ wf b := by
      intro i y hy
      have hi : i < len := by have := (List.getElem?_eq_some_iff.1 hy).1; omega
      have h2 := hel i hi
      rw [hy, Option.bind_eq_some_iff] at h2
      obtain ⟨c, hcs, htr⟩ := h2
      obtain ⟨b, hK, hw⟩ := r H enc w base spare held n c y htr
      exact ⟨b, c, hcs, hK, hw⟩
    obtain ⟨xs, hx1, hx2⟩ := list_choose (R := fun i _ (b : α) => ∃ c, w.cells? base (a.add (i * P.cellsOf e)) (P.cellsOf e) = some c ∧ d.K w b c ∧ wf b) len elems hlen each
    have get : ∀ i b, xs[i]? = some b → ∃ c, w.cells? base (a.add (i * P.cellsOf e)) (P.cellsOf e) = some c ∧ d.K w b c ∧ wf b := by
      intro i b hb'
      have hi : i < elems.length := by have := (List.getElem?_eq_some_iff.1 hb').1; omega
      exact hx2 i _ b (List.getElem?_eq_getElem hi) hb'
    refine ⟨xs, ⟨some a, cap, by rw [hx1], by omega, ?_⟩, by omega, fun b hb' => ?_⟩
    · refine ⟨rfl, by rw [hx1]; unfold maxLen at hm; omega, fun hp => ⟨a, rfl, fun j b hj => ?_⟩⟩
      obtain ⟨c, hcs, hK, _⟩ := get j b hj
      obtain ⟨_, hcl, hcell⟩ := World.cells?_some hcs
      refine ⟨c, by rw [hcl, hc], hK, fun i u hu => ?_⟩
      have hi : i < P.cellsOf e := by have := (List.getElem?_eq_some_iff.1 hu).1; omega
      have := hcell i hi
      rw [hu] at this
      rw [Addr.add_add] at this
      rw [← hc]
      exact this
    · obtain ⟨i, hi⟩ := List.mem_iff_getElem?.1 hb'
      obtain ⟨_, _, _, hw⟩ := get i b hi
      exact hw
theorem Rdb.struct2 {α β : Type} {P : Program} {t : TypeId} {f0 f1 : Field} {d0 : Kd α} {d1 : Kd β} {w0 : α → Prop} {w1 : β → Prop} (ht : P.underlying t = some (.struct #[f0, f1])) (o0 : f0.offset = 0) (o1 : f1.offset = P.cellsOf f0.type) (cT : P.cellsOf t = P.cellsOf f0.type + P.cellsOf f1.type)
    (r0 : Rdb P f0.type d0 w0) (r1 : Rdb P f1.type d1 w1) : Rdb P t (Kd.pair d0 d1) (fun x => w0 x.1 ∧ w1 x.2) := by
  intro H enc w base spare held fuel cs x h
  obtain ⟨y0, y1, n, _, hl, h0, h1⟩ := ChangeShapes.trod_struct2 ht h
  rw [o0, List.drop_zero] at h0
  rw [o1, List.take_of_length_le (by rw [List.length_drop, hl, cT]; omega)] at h1
  obtain ⟨a, hK0, hw0⟩ := r0 H enc w base spare held n _ y0 h0
  obtain ⟨b, hK1, hw1⟩ := r1 H enc w base spare held n _ y1 h1
  exact ⟨(a, b), ⟨_, _, (List.take_append_drop _ _).symm, hK0, hK1⟩, hw0, hw1⟩
theorem Rdb.struct3 {α β γ : Type} {P : Program} {t : TypeId} {f0 f1 f2 : Field} {d0 : Kd α} {d1 : Kd β} {d2 : Kd γ} {w0 : α → Prop} {w1 : β → Prop} {w2 : γ → Prop} (ht : P.underlying t = some (.struct #[f0, f1, f2])) (o0 : f0.offset = 0) (o1 : f1.offset = P.cellsOf f0.type)
    (o2 : f2.offset = P.cellsOf f0.type + P.cellsOf f1.type) (cT : P.cellsOf t = P.cellsOf f0.type + P.cellsOf f1.type + P.cellsOf f2.type)
    (r0 : Rdb P f0.type d0 w0) (r1 : Rdb P f1.type d1 w1) (r2 : Rdb P f2.type d2 w2) : Rdb P t (Kd.pair d0 (Kd.pair d1 d2)) (fun x => w0 x.1 ∧ w1 x.2.1 ∧ w2 x.2.2) := by
  intro H enc w base spare held fuel cs x h
  obtain ⟨xs, n, _, _, hl, hxl, hf⟩ := DataW.trod_struct ht h
  match xs, hxl with
  | [y0, y1, y2], _ =>
    have h0 : DataW.trod enc P w base spare held n f0.type ((cs.drop f0.offset).take (P.cellsOf f0.type)) = some y0 := by simpa using hf 0 f0 rfl
    have h1 : DataW.trod enc P w base spare held n f1.type ((cs.drop f1.offset).take (P.cellsOf f1.type)) = some y1 := by simpa using hf 1 f1 rfl
    have h2 : DataW.trod enc P w base spare held n f2.type ((cs.drop f2.offset).take (P.cellsOf f2.type)) = some y2 := by simpa using hf 2 f2 rfl
    rw [o0, List.drop_zero] at h0
    rw [o1] at h1
    rw [o2, List.take_of_length_le (by rw [List.length_drop, hl, cT]; omega)] at h2
    obtain ⟨a, hK0, hw0⟩ := r0 H enc w base spare held n _ y0 h0
    obtain ⟨b, hK1, hw1⟩ := r1 H enc w base spare held n _ y1 h1
    obtain ⟨c, hK2, hw2⟩ := r2 H enc w base spare held n _ y2 h2
    refine ⟨(a, b, c), ⟨_, _, (List.take_append_drop (P.cellsOf f0.type) cs).symm, hK0, _, _, ?_, hK1, hK2⟩, hw0, hw1, hw2⟩
    rw [← List.drop_drop, List.take_append_drop]
theorem Rdb.iso {α β : Type} {P : Program} {t : TypeId} {d : Kd α} {wf : α → Prop} (r : Rdb P t d wf) (f : β → α) (g : α → β) (hfg : ∀ a, f (g a) = a) : Rdb P t (Kd.iso d f) (fun b => wf (f b)) := by
  intro H enc w base spare held fuel cs x h
  obtain ⟨a, hK, hw⟩ := r H enc w base spare held fuel cs x h
  exact ⟨g a, by show d.K w (f (g a)) cs; rw [hfg]; exact hK, by show wf (f (g a)); rw [hfg]; exact hw⟩
theorem Rdb.of {α : Type} {P : Program} {t : TypeId} {d : Kd α} {wf : α → Prop} (r : Rdb P t d wf) {H : Type} {enc : TypeId × Value → H} {w : World} {base : Nat} {spare : Nat → Bool} {held : Bool} {v : Value} {x : DataW H} {ps : List MemPlace}
    (h : DataW.Trod enc P w base spare held t v x ps) : ∃ a : α, d.K w a v.cells.toList ∧ wf a := by
  obtain ⟨fuel, hf⟩ := h
  exact r H enc w base spare held fuel _ _ hf

end Go.Proofs.Ytiancdhpdjmacaa.F
