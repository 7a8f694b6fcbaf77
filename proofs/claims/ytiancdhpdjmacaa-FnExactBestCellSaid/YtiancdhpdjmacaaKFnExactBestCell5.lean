-- written by the session's program xp.py over the kit's print program, and by hand; texts joined by pack.py
import Derived.Test.YtiancdhpdjmacaaKFnExactBestCell4
namespace Go.Proofs.Ytiancdhpdjmacaa.F
open Go.RowKit Go.Proofs.YtiancdhpdjmacaaW.PrintWords Go.Proofs.YtiancdhpdjmacaaW.PrintLast Go.Proofs.YtiancdhpdjmacaaW.PrintMore
attribute [local go_sem] max2_int min2_int max_two min_two max_three min_three max_four min_four   -- for this text's walks alone
set_option linter.unusedVariables false
set_option linter.unusedSimpArgs false

/-! ### impl_Sea_shares: function 90 -/
-- EXTERNAL: by hand
-- impl_Sea_cells impl_Sea_eachFleet
-- EachOk ShI share_ok agreeing fleetsOf seaV_nat sea_ships sharesV_nil
def shotsIn (T : List S93) : Bool := T.all fun x => decide (0 ≤ x.f0) && decide (x.f0 ≤ 24)
theorem shotsIn_sea {T : List S93} (h : shotsIn T = true) : SeaCells (T.map fun x => x.f0) := fun x hx => by
  obtain ⟨y, hy, rfl⟩ := List.mem_map.1 hx
  have := List.all_eq_true.1 h y hy
  simpa using this
def impl_Sea_shares.f (a0_0 a0_1 : Int) (l0_2 : List Int) (l1 : List S93) : Option (Int × List Int) := if seaV a0_0 a0_1 l0_2 = true ∧ shotsIn l1 = true ∧ l1.length ≤ 1048576 then some (((agreeing (fleetsOf a0_0 a0_1 l0_2) l1).length : Int), sharesV (a0_0.toNat * a0_1.toNat) (agreeing (fleetsOf a0_0 a0_1 l0_2) l1)) else none
theorem blk_types_ne {W : World} {g g' t t' : Nat} {cs cs' : Array Value} (h : W.heap[g]? = some (.cells cs t (0, 0))) (h' : W.heap[g']? = some (.cells cs' t' (0, 0))) (ht : t ≠ t') : g ≠ g' := fun e => by
  subst e
  rw [h] at h'
  injection h' with h'
  injection h' with _ h2
  exact ht h2
theorem row_ne {W : World} {g t base go n co : Nat} {cs : Array Value} {ok : Nat → Prop} {xs : List Int} (h : W.heap[g]? = some (.cells cs t (0, 0))) (ho : Kd.R (Kd.int .i64) 2 W base ok (.slice (some ⟨go, 0, none⟩) n co) xs) (ht : 2 ≠ t) : g ≠ go := fun e => Kd.R_ne ho h ht (by rw [e]; rfl)
theorem share_start {w W : World} {g3 ga gb go co N : Nat} {A3 : Option Addr} {c3 : Nat} {T : List S93} (h3 : W.heap[g3]? = some (.cells #[.slice A3 T.length c3] 55 (0, 0))) (hC : W.heap[gb]? = some (.cells #[.slice none 0 0] 22 (0, 0))) (hA : W.heap[ga]? = some (.cells #[.int .i64 0] 2 (0, 0)))
    (ho : Kd.R (Kd.int .i64) 2 W w.heap.size (fun _ => True) (.slice (some ⟨go, 0, none⟩) N co) (sharesV N [])) (hB : Below w.heap.size w W) (hne : ShNe w g3 ga gb go) (hz : w.heap.size ≤ gb) : ShI w g3 ga gb go co A3 c3 T N [] (W.setCell ⟨gb, 0, none⟩ (.slice (some ⟨go, 0, none⟩) N co)) where
  below := below_set hB hz
  b3 := blk_far (p := ⟨gb, 0, none⟩) h3 (blk_types_ne h3 hC (by decide)) _
  bb := blk_put hC 0 _ rfl
  ba := blk_far (p := ⟨gb, 0, none⟩) hA (fun e => hne.ab e.symm) _
  row := Kd.R_mono (Kd.R_far (p := ⟨gb, 0, none⟩) (Kd.R_tight rfl ho) (fun k hk e => by subst e; injection hk with hk; exact hne.ob hk) _) (fun k hk => by injection hk)
theorem share_each (W0 H0 : Nat) (ships : List Int) (A2 : Option Addr) (c2 : Nat) (hw : 1 ≤ W0 ∧ W0 ≤ 5) (hh : 1 ≤ H0 ∧ H0 ≤ 5) (hsz : 1 ≤ ships.length ∧ ships.length ≤ 3) (hsin : ∀ j : Nat, j < ships.length → inW (rd ships (j : Int)) 1 5 = true) (hsc : ships.length ≤ c2)
    {w W : World} {g3 ga gb go co : Nat} {A3 : Option Addr} {c3 : Nat} {T : List S93} (hTl : T.length ≤ 1048576) (hTs : SeaCells (T.map fun x => x.f0)) (hne : ShNe w g3 ga gb go) (hT : Kd.C k93 w A3 T.length T) (hTc : T.length ≤ c3) (hR : Kd.C (Kd.int .i64) w A2 ships.length ships) {N : Nat} (hN : W0 * H0 = N) (hS : ShI w g3 ga gb go co A3 c3 T N [] W) :
    Calls Try.prog 65 #[.agg #[.int .i64 (W0 : Int), .int .i64 (H0 : Int), .slice A2 ships.length c2], .func (.func 112) #[] #[.pointer (some ⟨g3, 0, none⟩), .pointer (some ⟨ga, 0, none⟩), .pointer (some ⟨gb, 0, none⟩)]] W fun e w' => e = .returned (.tuple #[]) ∧ ShI w g3 ga gb go co A3 c3 T N (agreeing (fleetsFrom W0 H0 ships ships.length []) T) w' := by
  subst hN
  have eg112 : ∀ args w, (callFunc 112 args).run Try.prog w = .ok (.enter 112 args) w := enters_of Try.func112 (by kernel_rfl) rfl
  have hpl : ∀ j, (placeOf W0 H0 ships j).length ≤ 100 := fun j => placeOf_len hw.2 hh.2 ships j
  have hfl : (fleetsFrom W0 H0 ships ships.length []).length ≤ 1000000 := by
    refine Nat.le_trans (fleets_len W0 H0 ships hpl ships.length []) ?_
    exact Nat.le_trans (Nat.pow_le_pow_right (by omega) hsz.2) (by simp)
  have hclr : Clear (fun k => k = ga ∨ k = go) W A2 ships := by
    refine ⟨Kd.C_below hR hS.below, fun h0 a ha => ?_⟩
    subst ha
    obtain ⟨b, e, hcb⟩ := Kd.at_int hR 0 (by omega) (by omega)
    injection e with e
    subst e
    have h1 := World.block_lt_of_cell? _ _ hcb
    rw [add_block] at h1
    exact ⟨Nat.lt_of_lt_of_le h1 hS.below.size, fun h => by have := hne.za; have := hne.zo; rcases h with h | h <;> omega⟩
  refine (impl_Sea_eachFleet.does W0 H0 ships A2 c2 112 #[.pointer (some ⟨g3, 0, none⟩), .pointer (some ⟨ga, 0, none⟩), .pointer (some ⟨gb, 0, none⟩)] (ShareI w g3 ga gb go co A3 c3 T (W0 * H0) (fleetsFrom W0 H0 ships ships.length [])) 0 eg112 (share_ok hw hh hsz.2 hsin hTl hTs hne hT hTc hfl) hw hh hsz hsin hsc hpl W (Nat.zero_le _) (fun k => k = ga ∨ k = go) ⟨rfl, hS⟩ hclr).mono ?_
  rintro e w' ⟨rfl, M', hi, hf⟩
  have hi2 := hi.2
  rw [List.take_length] at hi2
  exact ⟨rfl, hi2⟩
def impl_Sea_shares.T1 : Bool × List (List Nat × List Nat) := (true, [([], []), ([0], [0]), ([1, 1], [1]), ([], []), ([], []), ([3, 1, 3, 4], [3]), ([4, 2, 5, 0, 1, 2, 3, 4, 5], [2, 4])])
def impl_Sea_shares.B1 : List Nat := [0, 1, 3, 0, 0, 27, 63]
theorem impl_Sea_shares.tab1 : rtab .any (opsOf Try.f90 1) = impl_Sea_shares.T1 := by kernel_rfl
theorem impl_Sea_shares.bits1 : waitsOk impl_Sea_shares.T1.2 impl_Sea_shares.B1 = true := by kernel_rfl
theorem wrap_nat_ {N : Nat} (h : N ≤ 25) : wrap64 (N : Int) = (N : Int) := by unfold wrap64; omega
set_option maxHeartbeats 16000000 in
set_option maxRecDepth 100000 in
theorem impl_Sea_shares.calls (a0_0 a0_1 : Int) (A2 : Option Addr) (c2 : Nat) (ships : List Int) (A3 : Option Addr) (c3 : Nat) (T : List S93) (r1 : Int) (r2 : List Int) (w : World) (hr0_2 : Kd.C (Kd.int .i64) w A2 ships.length ships) (hc0_2 : ships.length ≤ c2) (hr1 : Kd.C k93 w A3 T.length T) (hc1 : T.length ≤ c3) (h : impl_Sea_shares.f a0_0 a0_1 ships T = some (r1, r2)) :
    Calls Try.prog 90 #[.agg #[.int .i64 a0_0, .int .i64 a0_1, .slice A2 ships.length c2], .slice A3 T.length c3] w fun e w' => ∃ v1_ : Value, e = .returned (.tuple #[.int .i64 r1, v1_]) ∧ Kd.R (Kd.int .i64) 2 w' w.heap.size (fun _ => True) v1_ r2 ∧ Below w.heap.size w w' := by
  unfold impl_Sea_shares.f at h
  split at h
  case isFalse => cases h
  rename_i hs
  simp only [Option.some.injEq, Prod.mk.injEq] at h
  obtain ⟨hr1_, hr2_⟩ := h
  obtain ⟨hs, hsi, hTl⟩ := hs
  obtain ⟨⟨W0, rfl, hw1, hw5⟩, ⟨H0, rfl, hh1, hh5⟩, hs1, hs3⟩ := seaV_nat hs
  have HW := Aside0.mk (And.intro hw1 hw5)
  have HH := Aside0.mk (And.intro hh1 hh5)
  have HSz := Aside0.mk (And.intro hs1 hs3)
  have HSI := Aside0.mk (sea_ships hs)
  have HTl := Aside0.mk hTl
  have HTs := Aside0.mk (shotsIn_sea hsi)
  have HT0 := Aside0.mk hr1
  have HTc := Aside0.mk hc1
  have HSh := Aside0.mk hr0_2
  have HC2 := Aside0.mk hc0_2
  unfold fleetsOf at hr1_ hr2_
  simp only [Int.toNat_natCast] at hr1_ hr2_
  obtain ⟨D, hD⟩ : ∃ D, agreeing (fleetsFrom W0 H0 ships ships.length []) T = D := ⟨_, rfl⟩
  rw [hD] at hr1_ hr2_
  have HDn := Aside0.mk hD
  obtain ⟨N, hN⟩ : ∃ N, W0 * H0 = N := ⟨_, rfl⟩
  rw [hN] at hr2_
  have HNN0 := Aside0.mk hN
  have hN25 : N ≤ 25 := by rw [← hN]; exact cells_le hw5 hh5
  have HNp := Aside0.mk (show 0 < N by rw [← hN]; exact Nat.mul_pos (by omega) (by omega))
  have HN0 := Aside0.mk (show (0 : Int) ≤ (N : Int) by omega)
  have HN8 := Aside0.mk (show ((N : Int)).toNat * 8 ≤ 281474976710656 by rw [Int.toNat_natCast]; omega)
  have HCel := Aside0.mk (show impl_Sea_cells.f (W0 : Int) (H0 : Int) ships = some (N : Int) by
    unfold impl_Sea_cells.f
    rw [show (W0 : Int) * (H0 : Int) = (N : Int) by rw [← hN, Int.natCast_mul], wrap_nat_ hN25])
  subst hr1_ hr2_
  have hu28 := Try.underlying28
  clear hr0_2 hc0_2 hr1 hc1 hs hsi hTl hw1 hw5 hh1 hh5 hs1 hs3 hD hN hN25
  go_enter Try.func90, Try.ntmps90
  go_wp2_with (first | ((with_reducible refine gate_dst (N := 2) rfl ?_); refine box_event ?hg (N := 2) ?hd (cs := #[.int .i64 (W0 : Int), .int .i64 (H0 : Int), .slice A2 ships.length c2]) (t := 28) ?hr ?_; (case hd => rfl); (case hg => rfl); (case hr => first | (go_simp; done) | (go_simp; rfl)); intro g2 hg2 w1 hbox hb; have H2 := Aside0.mk hbox; have HB := Aside0.mk hb; clear hbox hb hg2) | ((with_reducible refine gate_dst (N := 3) rfl ?_); refine box_event ?hg (N := 3) ?hd (cs := #[.slice A3 T.length c3]) (t := 55) ?hr ?_; (case hd => rfl); (case hg => rfl); (case hr => first | (go_simp; done) | (go_simp; rfl)); intro g3 hg3 w2 hbox hb; have H3 := Aside0.mk hbox; have n1_ := Aside0.mk (blk_below H2.out hb); have n2_ := Aside0.mk (below_step HB.out hb); clear H2 HB hbox hb hg3; have H2 := n1_; have HB := n2_; clear n1_ n2_))
  have u2_ := Aside0.mk (blk_drew H2.out)
  have u3_ := Aside0.mk (blk_drew H3.out)
  have uB_ := Aside0.mk (below_drew1 HB.out)
  clear H2 H3 HB
  have H2 := u2_
  have H3 := u3_
  have HB := uB_
  clear u2_ u3_ uB_
  refine start_ (n := 7) (S := fun w' => w'.cell? ⟨g2, 0, none⟩ = some (.int .i64 (W0 : Int)) ∧ w'.cell? ⟨g2, 1, none⟩ = some (.int .i64 (H0 : Int)) ∧ w'.cell? ⟨g2, 2, none⟩ = some (.slice A2 ships.length c2)) (ds := [6]) #[false, false, false, false, false, false, false] (by kernel_rfl) rfl rfl ⟨(blk_cell H2.out 0).trans rfl, (blk_cell H2.out 1).trans rfl, (blk_cell H2.out 2).trans rfl⟩ (fun hHeld => ?_)
  refine with_tabW impl_Sea_shares.tab1 impl_Sea_shares.bits1 (fun HT_ HW_ => ?_)
  generalize hq_ : w2.drew = wd_ at H2 H3 HB hHeld ⊢
  clear hq_
  refine take_ (i := 0) (N := some 8) (v := ?_) (a' := ?_) (flg_ 7 1) rfl rfl (take_ofW HT_.out HW_.out (by kernel_rfl)) (fun _ _ _ h => h) (Or.inl ⟨by rfl, ?_⟩) hHeld ?_ ?_
  rotate_left
  · rintro w' ⟨s0_, s1_, s2_⟩
    go_simp
    with_reducible rfl
  rotate_left
  · simp only [Act.put, sz_, s0_, s1_, i64_w, i32_w]
    rfl
  all_goals first
    | (refine three_ (l := #[true, false, false, false, false, false, false]) (i := 1) (j := 3) (k := 4) (Ni := some 9) (Nj := some 6) (Nk := some 7) #[true, true, false, false, false, false, false] #[true, false, false, true, false, false, false] #[true, false, false, false, true, false, false] rfl rfl rfl rfl rfl rfl (three_of HT_.out (by kernel_rfl)) (by decide) (by decide) (by decide) (fun K hK => ?_) (fun K hK => ?_) (fun K hK => ?_))
  all_goals first
    | (refine goes_ (N := some 9) Try.func73 (by kernel_rfl) rfl #[.agg #[.int .i64 (W0 : Int), .int .i64 (H0 : Int), .slice A2 ships.length c2]] (by rfl) rfl rfl (by (try simp only [List.map_toArray, List.map_cons, List.map_nil]); first | done | rfl) ?_; refine (impl_Sea_cells.calls (W0 : Int) (H0 : Int) A2 c2 ships (N : Int) wd_ (Kd.C_below HSh.out HB.out) HC2.out HCel.out).mono ?_; rintro e wd_ ⟨rfl, hb⟩; refine ⟨_, rfl, ?_⟩; (try (have u_ := Aside0.mk (blk_below H2.out hb); clear H2; have H2 := u_; clear u_)); (try (have u_ := Aside0.mk (blk_below H3.out hb); clear H3; have H3 := u_; clear u_)); (try (have u_ := Aside0.mk (below_step HB.out hb); clear HB; have HB := u_; clear u_)); (try (have u_ := Aside0.mk (Kd.R_below HO.out hb); clear HO; have HO := u_; clear u_)); (try (have u_ := Aside0.mk (blk_below HA.out hb); clear HA; have HA := u_; clear u_)); (try (have u_ := Aside0.mk (blk_below HC.out hb); clear HC; have HC := u_; clear u_)); clear hb; refine hK.out _ _ ⟨(blk_cell H2.out 0).trans rfl, (blk_cell H2.out 1).trans rfl, (blk_cell H2.out 2).trans rfl⟩ (fun hHeld => ?_); clear hK K; refine norm_ (a' := ?_) ?_ ?_; rotate_left; (· (show Act.put _ (some 9) _ = _; simp only [Act.put, sz_, s0_, s1_, i64_w, i32_w]; rfl)))
    | (refine value_ (N := some 6) (w1 := wd_.alloc (.cells #[.int .i64 0] 2 (0, 0))) (v := .pointer (some ⟨wd_.heap.size, 0, none⟩)) (by rfl) rfl ?_ ?_; (· (go_simp; (try rfl))); have hb := below_alloc (Below.refl wd_.heap.size wd_) (.cells #[.int .i64 0] 2 (0, 0)); have hnw := blk_new wd_ (.cells #[.int .i64 0] 2 (0, 0)); have hz := below_size HB.out; (try have HNN := Aside0.mk (show wd_.heap.size ≠ go by have := Kd.R_lt HO.out go rfl; omega)); (try (have u_ := Aside0.mk (blk_below H2.out hb); clear H2; have H2 := u_; clear u_)); (try (have u_ := Aside0.mk (blk_below H3.out hb); clear H3; have H3 := u_; clear u_)); (try (have u_ := Aside0.mk (below_step HB.out hb); clear HB; have HB := u_; clear u_)); (try (have u_ := Aside0.mk (Kd.R_below HO.out hb); clear HO; have HO := u_; clear u_)); (try (have u_ := Aside0.mk (blk_below HA.out hb); clear HA; have HA := u_; clear u_)); (try (have u_ := Aside0.mk (blk_below HC.out hb); clear HC; have HC := u_; clear u_)); clear hb; generalize wd_.alloc (.cells #[.int .i64 0] 2 (0, 0)) = wx_ at *; generalize wd_.heap.size = ga at *; have HA := Aside0.mk hnw; have HZA := Aside0.mk hz; clear hnw hz; refine hK.out _ _ ⟨(blk_cell H2.out 0).trans rfl, (blk_cell H2.out 1).trans rfl, (blk_cell H2.out 2).trans rfl⟩ (fun hHeld => ?_); clear hK K; refine norm_ (a' := ?_) ?_ ?_; rotate_left; (· (show Act.put _ (some 6) _ = _; simp only [Act.put, sz_, s0_, s1_, i64_w, i32_w]; rfl)); (try clear wd_); generalize wx_ = wd_ at *)
    | (refine value_ (N := some 7) (w1 := wd_.alloc (.cells #[.slice none 0 0] 22 (0, 0))) (v := .pointer (some ⟨wd_.heap.size, 0, none⟩)) (by rfl) rfl ?_ ?_; (· (go_simp; (try rfl))); have hb := below_alloc (Below.refl wd_.heap.size wd_) (.cells #[.slice none 0 0] 22 (0, 0)); have hnw := blk_new wd_ (.cells #[.slice none 0 0] 22 (0, 0)); have hz := below_size HB.out; (try (have u_ := Aside0.mk (blk_below H2.out hb); clear H2; have H2 := u_; clear u_)); (try (have u_ := Aside0.mk (blk_below H3.out hb); clear H3; have H3 := u_; clear u_)); (try (have u_ := Aside0.mk (below_step HB.out hb); clear HB; have HB := u_; clear u_)); (try (have u_ := Aside0.mk (Kd.R_below HO.out hb); clear HO; have HO := u_; clear u_)); (try (have u_ := Aside0.mk (blk_below HA.out hb); clear HA; have HA := u_; clear u_)); (try (have u_ := Aside0.mk (blk_below HC.out hb); clear HC; have HC := u_; clear u_)); clear hb; generalize wd_.alloc (.cells #[.slice none 0 0] 22 (0, 0)) = wx_ at *; generalize wd_.heap.size = gb at *; have HC := Aside0.mk hnw; have HZB := Aside0.mk hz; clear hnw hz; refine hK.out _ _ ⟨(blk_cell H2.out 0).trans rfl, (blk_cell H2.out 1).trans rfl, (blk_cell H2.out 2).trans rfl⟩ (fun hHeld => ?_); clear hK K; refine norm_ (a' := ?_) ?_ ?_; rotate_left; (· (show Act.put _ (some 7) _ = _; simp only [Act.put, sz_, s0_, s1_, i64_w, i32_w]; rfl)); (try clear wd_); generalize wx_ = wd_ at *)
  all_goals first
    | (refine three_ (l := #[true, true, false, false, false, false, false]) (i := 2) (j := 3) (k := 4) (Ni := some 10) (Nj := some 6) (Nk := some 7) #[true, true, true, false, false, false, false] #[true, true, false, true, false, false, false] #[true, true, false, false, true, false, false] rfl rfl rfl rfl rfl rfl (three_of HT_.out (by kernel_rfl)) (by decide) (by decide) (by decide) (fun K hK => ?_) (fun K hK => ?_) (fun K hK => ?_))
    | (refine two_ (l := #[true, false, false, true, false, false, false]) (i := 1) (j := 4) (Ni := some 9) (Nj := some 7) #[true, true, false, true, false, false, false] #[true, false, false, true, true, false, false] rfl rfl rfl rfl (two_of HT_.out (by kernel_rfl)) (by decide) (by decide) (fun K hK => ?_) (fun K hK => ?_))
    | (refine two_ (l := #[true, false, false, false, true, false, false]) (i := 1) (j := 3) (Ni := some 9) (Nj := some 6) #[true, true, false, false, true, false, false] #[true, false, false, true, true, false, false] rfl rfl rfl rfl (two_of HT_.out (by kernel_rfl)) (by decide) (by decide) (fun K hK => ?_) (fun K hK => ?_))
  all_goals first
    | (refine goes_ (N := some 9) Try.func73 (by kernel_rfl) rfl #[.agg #[.int .i64 (W0 : Int), .int .i64 (H0 : Int), .slice A2 ships.length c2]] (by rfl) rfl rfl (by (try simp only [List.map_toArray, List.map_cons, List.map_nil]); first | done | rfl) ?_; refine (impl_Sea_cells.calls (W0 : Int) (H0 : Int) A2 c2 ships (N : Int) wd_ (Kd.C_below HSh.out HB.out) HC2.out HCel.out).mono ?_; rintro e wd_ ⟨rfl, hb⟩; refine ⟨_, rfl, ?_⟩; (try (have u_ := Aside0.mk (blk_below H2.out hb); clear H2; have H2 := u_; clear u_)); (try (have u_ := Aside0.mk (blk_below H3.out hb); clear H3; have H3 := u_; clear u_)); (try (have u_ := Aside0.mk (below_step HB.out hb); clear HB; have HB := u_; clear u_)); (try (have u_ := Aside0.mk (Kd.R_below HO.out hb); clear HO; have HO := u_; clear u_)); (try (have u_ := Aside0.mk (blk_below HA.out hb); clear HA; have HA := u_; clear u_)); (try (have u_ := Aside0.mk (blk_below HC.out hb); clear HC; have HC := u_; clear u_)); clear hb; refine hK.out _ _ ⟨(blk_cell H2.out 0).trans rfl, (blk_cell H2.out 1).trans rfl, (blk_cell H2.out 2).trans rfl⟩ (fun hHeld => ?_); clear hK K; refine norm_ (a' := ?_) ?_ ?_; rotate_left; (· (show Act.put _ (some 9) _ = _; simp only [Act.put, sz_, s0_, s1_, i64_w, i32_w]; rfl)))
    | (refine Kd.R_make_step (Kd.int .i64) _ 2 (by rfl) (N := 10) rfl 22 _ _ rfl (N : Int) rfl rfl Try.underlying22 (.int .i64 0) 8 info2 rfl (by decide) (by omega) 0 (ok := fun _ => True) (okp := fun _ => True) rfl (fun _ hk => hk) trivial HN0.out HN8.out (Below.refl _ _) (Nat.le_refl _) ?_; intro v10 wd_ ho hb hg_ hnew_; clear hg_ hnew_; rw [Int.toNat_natCast, ← sharesV_nil] at ho; obtain ⟨go, co, e10, hgo_, _, _⟩ := Kd.R_form ho (by rw [sharesV_len]; exact HNp.out); rw [sharesV_len] at e10; subst e10; (try have HNN := Aside0.mk (show ga ≠ go by have := blk_lt HA.out; omega)); have HZO := Aside0.mk (show w.heap.size ≤ go by have := below_size HB.out; omega); clear hgo_; have uO0_ := Aside0.mk (Kd.R_lower ho (below_size HB.out)); clear ho; (try (have u_ := Aside0.mk (blk_below H2.out hb); clear H2; have H2 := u_; clear u_)); (try (have u_ := Aside0.mk (blk_below H3.out hb); clear H3; have H3 := u_; clear u_)); (try (have u_ := Aside0.mk (below_step HB.out hb); clear HB; have HB := u_; clear u_)); (try (have u_ := Aside0.mk (Kd.R_below HO.out hb); clear HO; have HO := u_; clear u_)); (try (have u_ := Aside0.mk (blk_below HA.out hb); clear HA; have HA := u_; clear u_)); (try (have u_ := Aside0.mk (blk_below HC.out hb); clear HC; have HC := u_; clear u_)); clear hb; have HO := uO0_; clear uO0_; refine hK.out _ _ ⟨(blk_cell H2.out 0).trans rfl, (blk_cell H2.out 1).trans rfl, (blk_cell H2.out 2).trans rfl⟩ (fun hHeld => ?_); clear hK K; refine norm_ (a' := ?_) ?_ ?_; rotate_left; (· (show Act.put _ (some 10) _ = _; simp only [Act.put, sz_, s0_, s1_, i64_w, i32_w]; rfl)))
    | (refine value_ (N := some 6) (w1 := wd_.alloc (.cells #[.int .i64 0] 2 (0, 0))) (v := .pointer (some ⟨wd_.heap.size, 0, none⟩)) (by rfl) rfl ?_ ?_; (· (go_simp; (try rfl))); have hb := below_alloc (Below.refl wd_.heap.size wd_) (.cells #[.int .i64 0] 2 (0, 0)); have hnw := blk_new wd_ (.cells #[.int .i64 0] 2 (0, 0)); have hz := below_size HB.out; (try have HNN := Aside0.mk (show wd_.heap.size ≠ go by have := Kd.R_lt HO.out go rfl; omega)); (try (have u_ := Aside0.mk (blk_below H2.out hb); clear H2; have H2 := u_; clear u_)); (try (have u_ := Aside0.mk (blk_below H3.out hb); clear H3; have H3 := u_; clear u_)); (try (have u_ := Aside0.mk (below_step HB.out hb); clear HB; have HB := u_; clear u_)); (try (have u_ := Aside0.mk (Kd.R_below HO.out hb); clear HO; have HO := u_; clear u_)); (try (have u_ := Aside0.mk (blk_below HA.out hb); clear HA; have HA := u_; clear u_)); (try (have u_ := Aside0.mk (blk_below HC.out hb); clear HC; have HC := u_; clear u_)); clear hb; generalize wd_.alloc (.cells #[.int .i64 0] 2 (0, 0)) = wx_ at *; generalize wd_.heap.size = ga at *; have HA := Aside0.mk hnw; have HZA := Aside0.mk hz; clear hnw hz; refine hK.out _ _ ⟨(blk_cell H2.out 0).trans rfl, (blk_cell H2.out 1).trans rfl, (blk_cell H2.out 2).trans rfl⟩ (fun hHeld => ?_); clear hK K; refine norm_ (a' := ?_) ?_ ?_; rotate_left; (· (show Act.put _ (some 6) _ = _; simp only [Act.put, sz_, s0_, s1_, i64_w, i32_w]; rfl)); (try clear wd_); generalize wx_ = wd_ at *)
    | (refine value_ (N := some 7) (w1 := wd_.alloc (.cells #[.slice none 0 0] 22 (0, 0))) (v := .pointer (some ⟨wd_.heap.size, 0, none⟩)) (by rfl) rfl ?_ ?_; (· (go_simp; (try rfl))); have hb := below_alloc (Below.refl wd_.heap.size wd_) (.cells #[.slice none 0 0] 22 (0, 0)); have hnw := blk_new wd_ (.cells #[.slice none 0 0] 22 (0, 0)); have hz := below_size HB.out; (try (have u_ := Aside0.mk (blk_below H2.out hb); clear H2; have H2 := u_; clear u_)); (try (have u_ := Aside0.mk (blk_below H3.out hb); clear H3; have H3 := u_; clear u_)); (try (have u_ := Aside0.mk (below_step HB.out hb); clear HB; have HB := u_; clear u_)); (try (have u_ := Aside0.mk (Kd.R_below HO.out hb); clear HO; have HO := u_; clear u_)); (try (have u_ := Aside0.mk (blk_below HA.out hb); clear HA; have HA := u_; clear u_)); (try (have u_ := Aside0.mk (blk_below HC.out hb); clear HC; have HC := u_; clear u_)); clear hb; generalize wd_.alloc (.cells #[.slice none 0 0] 22 (0, 0)) = wx_ at *; generalize wd_.heap.size = gb at *; have HC := Aside0.mk hnw; have HZB := Aside0.mk hz; clear hnw hz; refine hK.out _ _ ⟨(blk_cell H2.out 0).trans rfl, (blk_cell H2.out 1).trans rfl, (blk_cell H2.out 2).trans rfl⟩ (fun hHeld => ?_); clear hK K; refine norm_ (a' := ?_) ?_ ?_; rotate_left; (· (show Act.put _ (some 7) _ = _; simp only [Act.put, sz_, s0_, s1_, i64_w, i32_w]; rfl)); (try clear wd_); generalize wx_ = wd_ at *)
  all_goals first
    | (refine two_ (l := #[true, true, true, false, false, false, false]) (i := 3) (j := 4) (Ni := some 6) (Nj := some 7) #[true, true, true, true, false, false, false] #[true, true, true, false, true, false, false] rfl rfl rfl rfl (two_of HT_.out (by kernel_rfl)) (by decide) (by decide) (fun K hK => ?_) (fun K hK => ?_))
    | (refine two_ (l := #[true, true, false, true, false, false, false]) (i := 2) (j := 4) (Ni := some 10) (Nj := some 7) #[true, true, true, true, false, false, false] #[true, true, false, true, true, false, false] rfl rfl rfl rfl (two_of HT_.out (by kernel_rfl)) (by decide) (by decide) (fun K hK => ?_) (fun K hK => ?_))
    | (refine two_ (l := #[true, true, false, false, true, false, false]) (i := 2) (j := 3) (Ni := some 10) (Nj := some 6) #[true, true, true, false, true, false, false] #[true, true, false, true, true, false, false] rfl rfl rfl rfl (two_of HT_.out (by kernel_rfl)) (by decide) (by decide) (fun K hK => ?_) (fun K hK => ?_))
    | (refine one_ (l := #[true, false, false, true, true, false, false]) (i := 1) (N := some 9) #[true, true, false, true, true, false, false] rfl rfl (one_of HT_.out (by kernel_rfl)) (by decide) (fun K hK => ?_))
  all_goals first
    | (refine goes_ (N := some 9) Try.func73 (by kernel_rfl) rfl #[.agg #[.int .i64 (W0 : Int), .int .i64 (H0 : Int), .slice A2 ships.length c2]] (by rfl) rfl rfl (by (try simp only [List.map_toArray, List.map_cons, List.map_nil]); first | done | rfl) ?_; refine (impl_Sea_cells.calls (W0 : Int) (H0 : Int) A2 c2 ships (N : Int) wd_ (Kd.C_below HSh.out HB.out) HC2.out HCel.out).mono ?_; rintro e wd_ ⟨rfl, hb⟩; refine ⟨_, rfl, ?_⟩; (try (have u_ := Aside0.mk (blk_below H2.out hb); clear H2; have H2 := u_; clear u_)); (try (have u_ := Aside0.mk (blk_below H3.out hb); clear H3; have H3 := u_; clear u_)); (try (have u_ := Aside0.mk (below_step HB.out hb); clear HB; have HB := u_; clear u_)); (try (have u_ := Aside0.mk (Kd.R_below HO.out hb); clear HO; have HO := u_; clear u_)); (try (have u_ := Aside0.mk (blk_below HA.out hb); clear HA; have HA := u_; clear u_)); (try (have u_ := Aside0.mk (blk_below HC.out hb); clear HC; have HC := u_; clear u_)); clear hb; refine hK.out _ _ ⟨(blk_cell H2.out 0).trans rfl, (blk_cell H2.out 1).trans rfl, (blk_cell H2.out 2).trans rfl⟩ (fun hHeld => ?_); clear hK K; refine norm_ (a' := ?_) ?_ ?_; rotate_left; (· (show Act.put _ (some 9) _ = _; simp only [Act.put, sz_, s0_, s1_, i64_w, i32_w]; rfl)))
    | (refine Kd.R_make_step (Kd.int .i64) _ 2 (by rfl) (N := 10) rfl 22 _ _ rfl (N : Int) rfl rfl Try.underlying22 (.int .i64 0) 8 info2 rfl (by decide) (by omega) 0 (ok := fun _ => True) (okp := fun _ => True) rfl (fun _ hk => hk) trivial HN0.out HN8.out (Below.refl _ _) (Nat.le_refl _) ?_; intro v10 wd_ ho hb hg_ hnew_; clear hg_ hnew_; rw [Int.toNat_natCast, ← sharesV_nil] at ho; obtain ⟨go, co, e10, hgo_, _, _⟩ := Kd.R_form ho (by rw [sharesV_len]; exact HNp.out); rw [sharesV_len] at e10; subst e10; (try have HNN := Aside0.mk (show ga ≠ go by have := blk_lt HA.out; omega)); have HZO := Aside0.mk (show w.heap.size ≤ go by have := below_size HB.out; omega); clear hgo_; have uO0_ := Aside0.mk (Kd.R_lower ho (below_size HB.out)); clear ho; (try (have u_ := Aside0.mk (blk_below H2.out hb); clear H2; have H2 := u_; clear u_)); (try (have u_ := Aside0.mk (blk_below H3.out hb); clear H3; have H3 := u_; clear u_)); (try (have u_ := Aside0.mk (below_step HB.out hb); clear HB; have HB := u_; clear u_)); (try (have u_ := Aside0.mk (Kd.R_below HO.out hb); clear HO; have HO := u_; clear u_)); (try (have u_ := Aside0.mk (blk_below HA.out hb); clear HA; have HA := u_; clear u_)); (try (have u_ := Aside0.mk (blk_below HC.out hb); clear HC; have HC := u_; clear u_)); clear hb; have HO := uO0_; clear uO0_; refine hK.out _ _ ⟨(blk_cell H2.out 0).trans rfl, (blk_cell H2.out 1).trans rfl, (blk_cell H2.out 2).trans rfl⟩ (fun hHeld => ?_); clear hK K; refine norm_ (a' := ?_) ?_ ?_; rotate_left; (· (show Act.put _ (some 10) _ = _; simp only [Act.put, sz_, s0_, s1_, i64_w, i32_w]; rfl)))
    | (refine value_ (N := some 6) (w1 := wd_.alloc (.cells #[.int .i64 0] 2 (0, 0))) (v := .pointer (some ⟨wd_.heap.size, 0, none⟩)) (by rfl) rfl ?_ ?_; (· (go_simp; (try rfl))); have hb := below_alloc (Below.refl wd_.heap.size wd_) (.cells #[.int .i64 0] 2 (0, 0)); have hnw := blk_new wd_ (.cells #[.int .i64 0] 2 (0, 0)); have hz := below_size HB.out; (try have HNN := Aside0.mk (show wd_.heap.size ≠ go by have := Kd.R_lt HO.out go rfl; omega)); (try (have u_ := Aside0.mk (blk_below H2.out hb); clear H2; have H2 := u_; clear u_)); (try (have u_ := Aside0.mk (blk_below H3.out hb); clear H3; have H3 := u_; clear u_)); (try (have u_ := Aside0.mk (below_step HB.out hb); clear HB; have HB := u_; clear u_)); (try (have u_ := Aside0.mk (Kd.R_below HO.out hb); clear HO; have HO := u_; clear u_)); (try (have u_ := Aside0.mk (blk_below HA.out hb); clear HA; have HA := u_; clear u_)); (try (have u_ := Aside0.mk (blk_below HC.out hb); clear HC; have HC := u_; clear u_)); clear hb; generalize wd_.alloc (.cells #[.int .i64 0] 2 (0, 0)) = wx_ at *; generalize wd_.heap.size = ga at *; have HA := Aside0.mk hnw; have HZA := Aside0.mk hz; clear hnw hz; refine hK.out _ _ ⟨(blk_cell H2.out 0).trans rfl, (blk_cell H2.out 1).trans rfl, (blk_cell H2.out 2).trans rfl⟩ (fun hHeld => ?_); clear hK K; refine norm_ (a' := ?_) ?_ ?_; rotate_left; (· (show Act.put _ (some 6) _ = _; simp only [Act.put, sz_, s0_, s1_, i64_w, i32_w]; rfl)); (try clear wd_); generalize wx_ = wd_ at *)
    | (refine value_ (N := some 7) (w1 := wd_.alloc (.cells #[.slice none 0 0] 22 (0, 0))) (v := .pointer (some ⟨wd_.heap.size, 0, none⟩)) (by rfl) rfl ?_ ?_; (· (go_simp; (try rfl))); have hb := below_alloc (Below.refl wd_.heap.size wd_) (.cells #[.slice none 0 0] 22 (0, 0)); have hnw := blk_new wd_ (.cells #[.slice none 0 0] 22 (0, 0)); have hz := below_size HB.out; (try (have u_ := Aside0.mk (blk_below H2.out hb); clear H2; have H2 := u_; clear u_)); (try (have u_ := Aside0.mk (blk_below H3.out hb); clear H3; have H3 := u_; clear u_)); (try (have u_ := Aside0.mk (below_step HB.out hb); clear HB; have HB := u_; clear u_)); (try (have u_ := Aside0.mk (Kd.R_below HO.out hb); clear HO; have HO := u_; clear u_)); (try (have u_ := Aside0.mk (blk_below HA.out hb); clear HA; have HA := u_; clear u_)); (try (have u_ := Aside0.mk (blk_below HC.out hb); clear HC; have HC := u_; clear u_)); clear hb; generalize wd_.alloc (.cells #[.slice none 0 0] 22 (0, 0)) = wx_ at *; generalize wd_.heap.size = gb at *; have HC := Aside0.mk hnw; have HZB := Aside0.mk hz; clear hnw hz; refine hK.out _ _ ⟨(blk_cell H2.out 0).trans rfl, (blk_cell H2.out 1).trans rfl, (blk_cell H2.out 2).trans rfl⟩ (fun hHeld => ?_); clear hK K; refine norm_ (a' := ?_) ?_ ?_; rotate_left; (· (show Act.put _ (some 7) _ = _; simp only [Act.put, sz_, s0_, s1_, i64_w, i32_w]; rfl)); (try clear wd_); generalize wx_ = wd_ at *)
  all_goals first
    | (refine one_ (l := #[true, true, true, true, false, false, false]) (i := 4) (N := some 7) #[true, true, true, true, true, false, false] rfl rfl (one_of HT_.out (by kernel_rfl)) (by decide) (fun K hK => ?_))
    | (refine one_ (l := #[true, true, true, false, true, false, false]) (i := 3) (N := some 6) #[true, true, true, true, true, false, false] rfl rfl (one_of HT_.out (by kernel_rfl)) (by decide) (fun K hK => ?_))
    | (refine two_ (l := #[true, true, false, true, true, false, false]) (i := 2) (j := 5) (Ni := some 10) (Nj := none) #[true, true, true, true, true, false, false] #[true, true, false, true, true, true, false] rfl rfl rfl rfl (two_of HT_.out (by kernel_rfl)) (by decide) (by decide) (fun K hK => ?_) (fun K hK => ?_))
  all_goals first
    | (refine Kd.R_make_step (Kd.int .i64) _ 2 (by rfl) (N := 10) rfl 22 _ _ rfl (N : Int) rfl rfl Try.underlying22 (.int .i64 0) 8 info2 rfl (by decide) (by omega) 0 (ok := fun _ => True) (okp := fun _ => True) rfl (fun _ hk => hk) trivial HN0.out HN8.out (Below.refl _ _) (Nat.le_refl _) ?_; intro v10 wd_ ho hb hg_ hnew_; clear hg_ hnew_; rw [Int.toNat_natCast, ← sharesV_nil] at ho; obtain ⟨go, co, e10, hgo_, _, _⟩ := Kd.R_form ho (by rw [sharesV_len]; exact HNp.out); rw [sharesV_len] at e10; subst e10; (try have HNN := Aside0.mk (show ga ≠ go by have := blk_lt HA.out; omega)); have HZO := Aside0.mk (show w.heap.size ≤ go by have := below_size HB.out; omega); clear hgo_; have uO0_ := Aside0.mk (Kd.R_lower ho (below_size HB.out)); clear ho; (try (have u_ := Aside0.mk (blk_below H2.out hb); clear H2; have H2 := u_; clear u_)); (try (have u_ := Aside0.mk (blk_below H3.out hb); clear H3; have H3 := u_; clear u_)); (try (have u_ := Aside0.mk (below_step HB.out hb); clear HB; have HB := u_; clear u_)); (try (have u_ := Aside0.mk (Kd.R_below HO.out hb); clear HO; have HO := u_; clear u_)); (try (have u_ := Aside0.mk (blk_below HA.out hb); clear HA; have HA := u_; clear u_)); (try (have u_ := Aside0.mk (blk_below HC.out hb); clear HC; have HC := u_; clear u_)); clear hb; have HO := uO0_; clear uO0_; refine hK.out _ _ ⟨(blk_cell H2.out 0).trans rfl, (blk_cell H2.out 1).trans rfl, (blk_cell H2.out 2).trans rfl⟩ (fun hHeld => ?_); clear hK K; refine norm_ (a' := ?_) ?_ ?_; rotate_left; (· (show Act.put _ (some 10) _ = _; simp only [Act.put, sz_, s0_, s1_, i64_w, i32_w]; rfl)))
    | (refine value_ (N := some 6) (w1 := wd_.alloc (.cells #[.int .i64 0] 2 (0, 0))) (v := .pointer (some ⟨wd_.heap.size, 0, none⟩)) (by rfl) rfl ?_ ?_; (· (go_simp; (try rfl))); have hb := below_alloc (Below.refl wd_.heap.size wd_) (.cells #[.int .i64 0] 2 (0, 0)); have hnw := blk_new wd_ (.cells #[.int .i64 0] 2 (0, 0)); have hz := below_size HB.out; (try have HNN := Aside0.mk (show wd_.heap.size ≠ go by have := Kd.R_lt HO.out go rfl; omega)); (try (have u_ := Aside0.mk (blk_below H2.out hb); clear H2; have H2 := u_; clear u_)); (try (have u_ := Aside0.mk (blk_below H3.out hb); clear H3; have H3 := u_; clear u_)); (try (have u_ := Aside0.mk (below_step HB.out hb); clear HB; have HB := u_; clear u_)); (try (have u_ := Aside0.mk (Kd.R_below HO.out hb); clear HO; have HO := u_; clear u_)); (try (have u_ := Aside0.mk (blk_below HA.out hb); clear HA; have HA := u_; clear u_)); (try (have u_ := Aside0.mk (blk_below HC.out hb); clear HC; have HC := u_; clear u_)); clear hb; generalize wd_.alloc (.cells #[.int .i64 0] 2 (0, 0)) = wx_ at *; generalize wd_.heap.size = ga at *; have HA := Aside0.mk hnw; have HZA := Aside0.mk hz; clear hnw hz; refine hK.out _ _ ⟨(blk_cell H2.out 0).trans rfl, (blk_cell H2.out 1).trans rfl, (blk_cell H2.out 2).trans rfl⟩ (fun hHeld => ?_); clear hK K; refine norm_ (a' := ?_) ?_ ?_; rotate_left; (· (show Act.put _ (some 6) _ = _; simp only [Act.put, sz_, s0_, s1_, i64_w, i32_w]; rfl)); (try clear wd_); generalize wx_ = wd_ at *)
    | (refine value_ (N := some 7) (w1 := wd_.alloc (.cells #[.slice none 0 0] 22 (0, 0))) (v := .pointer (some ⟨wd_.heap.size, 0, none⟩)) (by rfl) rfl ?_ ?_; (· (go_simp; (try rfl))); have hb := below_alloc (Below.refl wd_.heap.size wd_) (.cells #[.slice none 0 0] 22 (0, 0)); have hnw := blk_new wd_ (.cells #[.slice none 0 0] 22 (0, 0)); have hz := below_size HB.out; (try (have u_ := Aside0.mk (blk_below H2.out hb); clear H2; have H2 := u_; clear u_)); (try (have u_ := Aside0.mk (blk_below H3.out hb); clear H3; have H3 := u_; clear u_)); (try (have u_ := Aside0.mk (below_step HB.out hb); clear HB; have HB := u_; clear u_)); (try (have u_ := Aside0.mk (Kd.R_below HO.out hb); clear HO; have HO := u_; clear u_)); (try (have u_ := Aside0.mk (blk_below HA.out hb); clear HA; have HA := u_; clear u_)); (try (have u_ := Aside0.mk (blk_below HC.out hb); clear HC; have HC := u_; clear u_)); clear hb; generalize wd_.alloc (.cells #[.slice none 0 0] 22 (0, 0)) = wx_ at *; generalize wd_.heap.size = gb at *; have HC := Aside0.mk hnw; have HZB := Aside0.mk hz; clear hnw hz; refine hK.out _ _ ⟨(blk_cell H2.out 0).trans rfl, (blk_cell H2.out 1).trans rfl, (blk_cell H2.out 2).trans rfl⟩ (fun hHeld => ?_); clear hK K; refine norm_ (a' := ?_) ?_ ?_; rotate_left; (· (show Act.put _ (some 7) _ = _; simp only [Act.put, sz_, s0_, s1_, i64_w, i32_w]; rfl)); (try clear wd_); generalize wx_ = wd_ at *)
    | (have hfA := blk_frozen HA.out 0; have hcA := (blk_cell HA.out 0).trans rfl; refine skip_ (w1 := wd_.setCell ⟨ga, 0, none⟩ (.int .i64 0)) (by rfl) rfl ?_ ?_; (· (go_simp; (try rfl))); (try (have u_ := Aside0.mk (blk_far (p := ⟨ga, 0, none⟩) H2.out (blk_types_ne H2.out HA.out (by decide)) (.int .i64 0)); clear H2; have H2 := u_; clear u_)); (try (have u_ := Aside0.mk (blk_far (p := ⟨ga, 0, none⟩) H3.out (blk_types_ne H3.out HA.out (by decide)) (.int .i64 0)); clear H3; have H3 := u_; clear u_)); have uB_ := Aside0.mk (below_set HB.out HZA.out : Below w.heap.size w (wd_.setCell ⟨ga, 0, none⟩ (.int .i64 0))); clear HB; have HB := uB_; clear uB_; (try (have u_ := Aside0.mk (blk_far (p := ⟨ga, 0, none⟩) HC.out (blk_types_ne HC.out HA.out (by decide)) (.int .i64 0)); clear HC; have HC := u_; clear u_)); (try (have u_ := Aside0.mk (Kd.R_mono (ok' := fun _ => True) (Kd.R_far (p := ⟨ga, 0, none⟩) (Kd.R_far1 HO.out rfl (g := ga) (fun e => HNN.out (by injection e))) (fun k hk => hk.2) (.int .i64 0)) (fun _ _ => trivial)); clear HO; have HO := u_; clear u_)); (try (have u_ := Aside0.mk (blk_put HA.out 0 (.int .i64 0) rfl); clear HA; have HA := u_; clear u_)); clear hfA hcA; generalize wd_.setCell ⟨ga, 0, none⟩ (.int .i64 0) = wd_ at *; refine hK.out _ _ ⟨(blk_cell H2.out 0).trans rfl, (blk_cell H2.out 1).trans rfl, (blk_cell H2.out 2).trans rfl⟩ (fun hHeld => ?_); clear hK K)
  all_goals first
    | (refine one_ (l := #[true, true, true, true, true, false, false]) (i := 5) (N := none) #[true, true, true, true, true, true, false] rfl rfl (one_of HT_.out (by kernel_rfl)) (by decide) (fun K hK => ?_))
    | (refine one_ (l := #[true, true, false, true, true, true, false]) (i := 2) (N := some 10) #[true, true, true, true, true, true, false] rfl rfl (one_of HT_.out (by kernel_rfl)) (by decide) (fun K hK => ?_))
  all_goals first
    | (refine Kd.R_make_step (Kd.int .i64) _ 2 (by rfl) (N := 10) rfl 22 _ _ rfl (N : Int) rfl rfl Try.underlying22 (.int .i64 0) 8 info2 rfl (by decide) (by omega) 0 (ok := fun _ => True) (okp := fun _ => True) rfl (fun _ hk => hk) trivial HN0.out HN8.out (Below.refl _ _) (Nat.le_refl _) ?_; intro v10 wd_ ho hb hg_ hnew_; clear hg_ hnew_; rw [Int.toNat_natCast, ← sharesV_nil] at ho; obtain ⟨go, co, e10, hgo_, _, _⟩ := Kd.R_form ho (by rw [sharesV_len]; exact HNp.out); rw [sharesV_len] at e10; subst e10; (try have HNN := Aside0.mk (show ga ≠ go by have := blk_lt HA.out; omega)); have HZO := Aside0.mk (show w.heap.size ≤ go by have := below_size HB.out; omega); clear hgo_; have uO0_ := Aside0.mk (Kd.R_lower ho (below_size HB.out)); clear ho; (try (have u_ := Aside0.mk (blk_below H2.out hb); clear H2; have H2 := u_; clear u_)); (try (have u_ := Aside0.mk (blk_below H3.out hb); clear H3; have H3 := u_; clear u_)); (try (have u_ := Aside0.mk (below_step HB.out hb); clear HB; have HB := u_; clear u_)); (try (have u_ := Aside0.mk (Kd.R_below HO.out hb); clear HO; have HO := u_; clear u_)); (try (have u_ := Aside0.mk (blk_below HA.out hb); clear HA; have HA := u_; clear u_)); (try (have u_ := Aside0.mk (blk_below HC.out hb); clear HC; have HC := u_; clear u_)); clear hb; have HO := uO0_; clear uO0_; refine hK.out _ _ ⟨(blk_cell H2.out 0).trans rfl, (blk_cell H2.out 1).trans rfl, (blk_cell H2.out 2).trans rfl⟩ (fun hHeld => ?_); clear hK K; refine norm_ (a' := ?_) ?_ ?_; rotate_left; (· (show Act.put _ (some 10) _ = _; simp only [Act.put, sz_, s0_, s1_, i64_w, i32_w]; rfl)))
    | (have hfA := blk_frozen HA.out 0; have hcA := (blk_cell HA.out 0).trans rfl; refine skip_ (w1 := wd_.setCell ⟨ga, 0, none⟩ (.int .i64 0)) (by rfl) rfl ?_ ?_; (· (go_simp; (try rfl))); (try (have u_ := Aside0.mk (blk_far (p := ⟨ga, 0, none⟩) H2.out (blk_types_ne H2.out HA.out (by decide)) (.int .i64 0)); clear H2; have H2 := u_; clear u_)); (try (have u_ := Aside0.mk (blk_far (p := ⟨ga, 0, none⟩) H3.out (blk_types_ne H3.out HA.out (by decide)) (.int .i64 0)); clear H3; have H3 := u_; clear u_)); have uB_ := Aside0.mk (below_set HB.out HZA.out : Below w.heap.size w (wd_.setCell ⟨ga, 0, none⟩ (.int .i64 0))); clear HB; have HB := uB_; clear uB_; (try (have u_ := Aside0.mk (blk_far (p := ⟨ga, 0, none⟩) HC.out (blk_types_ne HC.out HA.out (by decide)) (.int .i64 0)); clear HC; have HC := u_; clear u_)); (try (have u_ := Aside0.mk (Kd.R_mono (ok' := fun _ => True) (Kd.R_far (p := ⟨ga, 0, none⟩) (Kd.R_far1 HO.out rfl (g := ga) (fun e => HNN.out (by injection e))) (fun k hk => hk.2) (.int .i64 0)) (fun _ _ => trivial)); clear HO; have HO := u_; clear u_)); (try (have u_ := Aside0.mk (blk_put HA.out 0 (.int .i64 0) rfl); clear HA; have HA := u_; clear u_)); clear hfA hcA; generalize wd_.setCell ⟨ga, 0, none⟩ (.int .i64 0) = wd_ at *; refine hK.out _ _ ⟨(blk_cell H2.out 0).trans rfl, (blk_cell H2.out 1).trans rfl, (blk_cell H2.out 2).trans rfl⟩ (fun hHeld => ?_); clear hK K)
  all_goals generalize wd_ = wz_ at H2 H3 HB HO HA HC hHeld ⊢
  all_goals
    refine last_ (i := 6) (N := none) (flg_ 7 127) rfl rfl (one_of HT_.out (by kernel_rfl)) (by decide) (fun K hK => ?_)
    have hfC := blk_frozen HC.out 0
    have hcC := (blk_cell HC.out 0).trans rfl
    refine skip_ (w1 := World.setCell wz_ ⟨gb, 0, none⟩ (.slice (some ⟨go, 0, none⟩) N co)) (by rfl) rfl ?_ ?_
    · go_simp
      (try rfl)
    refine hK.out _ _ ?_
    clear hK K hfC hcC hHeld
    have HNE := Aside0.mk (show ShNe w g3 ga gb go from ⟨blk_types_ne H3.out HA.out (by decide), (blk_types_ne HC.out HA.out (by decide)), HNN.out, row_ne H3.out HO.out (by decide), row_ne HC.out HO.out (by decide), HZA.out, HZO.out⟩)
    have uS_ := Aside0.mk (share_start H3.out HC.out HA.out HO.out HB.out HNE.out HZB.out)
    have u2_ := Aside0.mk (blk_far (p := ⟨gb, 0, none⟩) H2.out (blk_types_ne H2.out HC.out (by decide)) (.slice (some ⟨go, 0, none⟩) N co))
    clear H2 H3 HA HC HO HB
    have H2 := u2_
    have HS := uS_
    clear u2_ uS_
    generalize World.setCell wz_ ⟨gb, 0, none⟩ (.slice (some ⟨go, 0, none⟩) N co) = w7 at H2 HS ⊢
    refine done_ (done_of HT_.out (by kernel_rfl)) ?_
    have hs0 := (blk_cell H2.out 0).trans rfl
    have hs1 := (blk_cell H2.out 1).trans rfl
    have hs2 := (blk_cell H2.out 2).trans rfl
    go_wp2_with (first | (go_at_call 65; refine (share_each W0 H0 ships A2 c2 HW.out HH.out HSz.out HSI.out HC2.out HTl.out HTs.out HNE.out HT0.out HTc.out HSh.out HNN0.out HS.out).mono ?_; rintro e w8 ⟨rfl, hE⟩; rw [HDn.out] at hE; have HE := Aside0.mk hE; clear hE H2 HS hs0 hs1 hs2; have ha_ := (blk_cell HE.out.ba 0).trans rfl; have hb_ := (blk_cell HE.out.bb 0).trans rfl))
    go_quiet (fail)
    (try go_wp2_with fail)
    go_ret2
    have hbq := pw_below_drewN (Below.refl w8.heap.size w8) nq
    exact ⟨_, rfl, Kd.R_mono (Kd.R_below HE.out.row hbq) (fun _ _ => trivial), below_step HE.out.below hbq⟩
-- With no bound the reference's fleets are all that agree: the value that the contracts name. (for 64)
-- goV_all fleetsOf
def goFleets (w h : Int) (l : List Int) (T : List S93) (most : Int) : List (List Int) := goV w.toNat h.toNat l T l.length [] 0 most
theorem goFleets_all {w h : Int} {l : List Int} (hs : seaV w h l = true) (T : List S93) : goFleets w h l T (-1) = (fleetsOf w h l).filter fun fl => agFrom fl 0 T := by
  obtain ⟨⟨W0, rfl, hw1, hw5⟩, ⟨H0, rfl, hh1, hh5⟩, _, _⟩ := seaV_nat hs
  unfold goFleets fleetsOf
  simp only [Int.toNat_natCast]
  exact goV_all ⟨hw1, hw5⟩ ⟨hh1, hh5⟩ l (sea_ships hs) T (-1) (by omega) l.length [] 0 (by simp) (used_zero [])
-- What the reference's list of fleets needs of the functions that it calls. (for 64)
-- specPlacements_ev specAgrees_ev goV
theorem go_env {W0 H0 : Nat} (hW : 1 ≤ W0 ∧ W0 ≤ 5) (hH : 1 ≤ H0 ∧ H0 ≤ 5) (ships : List Int) (hs3 : ships.length ≤ 3) (hin : ∀ j : Nat, j < ships.length → inW (rd ships (j : Int)) 1 5 = true) (T : List S93) (hT : T.length ≤ 1048576) (hc : SeaCells (T.map fun x => x.f0)) :
    (∀ j : Nat, j < ships.length → ∃ kp, spec_l09Placements.f kp (W0 : Int) (H0 : Int) ships (rd ships (j : Int)) = some (placeOf W0 H0 ships j)) ∧ ∀ list : List Int, list.length = ships.length → InPl W0 H0 ships list → ∃ ka, spec_l09Agrees.f ka list T = some (agFrom list 0 T) := by
  refine ⟨fun j hj => ?_, fun list hl hi => ?_⟩
  · obtain ⟨n, hn, h1, h5⟩ := inW_five (hin j hj)
    obtain ⟨K, hK⟩ := specPlacements_ev hW hH.2 ⟨h1, h5⟩ ships
    exact ⟨K, by rw [hn]; unfold placeOf; rw [hn, Int.toNat_natCast]; exact hK K (Nat.le_refl _)⟩
  · have hN : NumFleet list := fun x hx => by
      obtain ⟨j, hj, rfl⟩ := List.mem_iff_getElem.1 hx
      obtain ⟨n, hn, h1, h5⟩ := inW_five (hin j (by omega))
      have := hi j hj
      unfold placeOf at this
      rw [hn, Int.toNat_natCast] at this
      obtain ⟨m, e, _, h⟩ := placesOf_num hW.1 hW.2 hH.2 h1 _ this
      exact ⟨m, e, h⟩
    obtain ⟨K, hK⟩ := specAgrees_ev hN (by omega) T hT hc
    exact ⟨K, hK K (Nat.le_refl _)⟩
/-! ### spec_l09Shares: function 91 -/
-- EXTERNAL: by hand
-- spec_l09Go spec_l09Set spec_l09Cells
-- goFleets go_env seaV_nat sea_ships sharesV shareSome shotsIn agreeing goFleets_all fleets_num specSet_ev specCells_ev chosen_step
def spec_l09Shares.f (a0_0 a0_1 : Int) (l0_2 : List Int) (l1 : List S93) : Option (List Int × Int) := if seaV a0_0 a0_1 l0_2 = true ∧ shotsIn l1 = true ∧ l1.length ≤ 1048576 then some (sharesV (a0_0.toNat * a0_1.toNat) (agreeing (fleetsOf a0_0 a0_1 l0_2) l1), ((agreeing (fleetsOf a0_0 a0_1 l0_2) l1).length : Int)) else none
theorem fnil_ (w : World) (ok : Nat → Prop) (A : Option Addr) : Kd.F (Kd.int .i64) w ok A 0 [] := fun _ _ => ⟨rfl, Nat.zero_le _, fun hp => absurd hp (by simp)⟩
theorem row_blk_ {W : World} {base go n co : Nat} {ok : Nat → Prop} {xs : List Int} (ho : Kd.R (Kd.int .i64) 2 W base ok (.slice (some ⟨go, 0, none⟩) n co) xs) (h : 0 < xs.length) : ∃ cells, W.heap[go]? = some (.cells cells 2 (0, 0)) := by
  obtain ⟨g, cap, e2, _, _, cells, hc⟩ := Kd.R_form ho h
  injection e2 with e3
  injection e3 with e3
  injection e3 with e3
  subst e3
  exact ⟨cells, hc⟩
theorem wrap_nat2_ {N : Nat} (h : N ≤ 25) : wrap64 (N : Int) = (N : Int) := by unfold wrap64; omega
def spec_l09Shares.T1 : Bool × List (List Nat × List Nat) := (true, [([], []), ([], []), ([], []), ([0, 1, 2], [0, 1, 2]), ([], []), ([4], [4]), ([], []), ([6], [6]), ([5, 7], [5, 7]), ([8, 8], [8]), ([3, 3, 0, 1, 2, 3], [3]), ([9, 10, 0, 1, 2, 3, 4, 5, 6, 7, 8, 9, 10], [9])])
def spec_l09Shares.B1 : List Nat := [0, 0, 0, 7, 0, 16, 0, 64, 240, 496, 15, 2047]
theorem spec_l09Shares.tab1 : rtab .any (opsOf Try.f91 1) = spec_l09Shares.T1 := by kernel_rfl
theorem spec_l09Shares.bits1 : waitsOk spec_l09Shares.T1.2 spec_l09Shares.B1 = true := by kernel_rfl
set_option maxHeartbeats 16000000 in
set_option maxRecDepth 100000 in
theorem spec_l09Shares.calls (a0_0 a0_1 : Int) (A2 : Option Addr) (c2 : Nat) (ships : List Int) (A3 : Option Addr) (c3 : Nat) (T : List S93) (r1 : List Int) (r2 : Int) (w : World) (hr0_2 : Kd.C (Kd.int .i64) w A2 ships.length ships) (hc0_2 : ships.length ≤ c2) (hr1 : Kd.C k93 w A3 T.length T) (hc1 : T.length ≤ c3) (h : spec_l09Shares.f a0_0 a0_1 ships T = some (r1, r2)) :
    Calls Try.prog 91 #[.agg #[.int .i64 a0_0, .int .i64 a0_1, .slice A2 ships.length c2], .slice A3 T.length c3] w fun e w' => ∃ v0_ : Value, e = .returned (.tuple #[v0_, .int .i64 r2]) ∧ Kd.R (Kd.int .i64) 2 w' w.heap.size (fun _ => True) v0_ r1 ∧ Below w.heap.size w w' := by
  unfold spec_l09Shares.f at h
  split at h
  case isFalse => cases h
  rename_i hs
  simp only [Option.some.injEq, Prod.mk.injEq] at h
  obtain ⟨hr1_, hr2_⟩ := h
  obtain ⟨hs, hsi, hTl⟩ := hs
  have hall := goFleets_all hs T
  obtain ⟨⟨W0, rfl, hw1, hw5⟩, ⟨H0, rfl, hh1, hh5⟩, hs1, hs3⟩ := seaV_nat hs
  have HW := Aside0.mk (And.intro hw1 hw5)
  have HH := Aside0.mk (And.intro hh1 hh5)
  have HSz := Aside0.mk (And.intro hs1 hs3)
  have HTs := Aside0.mk (shotsIn_sea hsi)
  have HT0 := Aside0.mk hr1
  have HTc := Aside0.mk hc1
  have HSh := Aside0.mk hr0_2
  have HC2 := Aside0.mk hc0_2
  have HEnv := Aside0.mk (go_env ⟨hw1, hw5⟩ ⟨hh1, hh5⟩ ships hs3 (sea_ships hs) T hTl (shotsIn_sea hsi))
  have HLen := Aside0.mk (show ([] : List Int).length + ships.length = ships.length by simp)
  have HNum := Aside0.mk (fleets_num ⟨hw1, hw5⟩ ⟨hh1, hh5⟩ hs3 (sea_ships hs) T)
  have hgl := goV_len W0 H0 ships T (fun j => placeOf_len hw5 hh5 ships j) ships.length [] 0 (-1)
  unfold goFleets fleetsOf at hall
  unfold fleetsOf at hr1_ hr2_
  simp only [Int.toNat_natCast] at hr1_ hr2_ hall
  replace hall : goV W0 H0 ships T ships.length [] 0 (-1) = agreeing (fleetsFrom W0 H0 ships ships.length []) T := hall
  obtain ⟨fls, hfls⟩ : ∃ fls, agreeing (fleetsFrom W0 H0 ships ships.length []) T = fls := ⟨_, rfl⟩
  rw [hfls] at hr1_ hr2_ hall HNum
  have HFlen := Aside0.mk (show fls.length ≤ 1000000 by rw [← hall]; exact Nat.le_trans hgl (Nat.le_trans (Nat.pow_le_pow_right (by omega) hs3) (by simp)))
  have HFl := Aside0.mk hall
  obtain ⟨N, hN⟩ : ∃ N, W0 * H0 = N := ⟨_, rfl⟩
  rw [hN] at hr1_ HNum
  have hN25 : N ≤ 25 := by rw [← hN]; exact cells_le hw5 hh5
  have HN25 := Aside0.mk hN25
  have HNp := Aside0.mk (show 0 < N by rw [← hN]; exact Nat.mul_pos (by omega) (by omega))
  have hwn : wrap64 ((W0 : Int) * (H0 : Int)) = (N : Int) := by rw [show (W0 : Int) * (H0 : Int) = (N : Int) by rw [← hN, Int.natCast_mul], wrap_nat2_ hN25]
  have HN0 := Aside0.mk (show (0 : Int) ≤ wrap64 ((W0 : Int) * (H0 : Int)) by rw [hwn]; exact Int.natCast_nonneg N)
  have HN8 := Aside0.mk (show (wrap64 ((W0 : Int) * (H0 : Int))).toNat * 8 ≤ 281474976710656 by rw [hwn, Int.toNat_natCast]; clear hwn; omega)
  have HNe := Aside0.mk (show (wrap64 ((W0 : Int) * (H0 : Int))).toNat = N by rw [hwn, Int.toNat_natCast])
  subst hr1_ hr2_
  have hu28 := Try.underlying28
  clear hr0_2 hc0_2 hr1 hc1 hs hsi hTl hw1 hw5 hh1 hh5 hs1 hs3 hN hN25 hwn hgl hall hfls
  go_enter Try.func91, Try.ntmps91
  go_wp2_with (first | ((with_reducible refine gate_dst (N := 2) rfl ?_); refine box_event ?hg (N := 2) ?hd (cs := #[.int .i64 (W0 : Int), .int .i64 (H0 : Int), .slice A2 ships.length c2]) (t := 28) ?hr ?_; (case hd => rfl); (case hg => rfl); (case hr => first | (go_simp; done) | (go_simp; rfl)); intro g2 hg2 w1 hbox hb; have H2 := Aside0.mk hbox; have HB := Aside0.mk hb; clear hbox hb hg2))
  have u2_ := Aside0.mk (blk_drew H2.out)
  have uB_ := Aside0.mk (below_drew1 HB.out)
  clear H2 HB
  have H2 := u2_
  have HB := uB_
  clear u2_ uB_
  refine start_ (n := 12) (S := fun w' => w'.cell? ⟨g2, 0, none⟩ = some (.int .i64 (W0 : Int)) ∧ w'.cell? ⟨g2, 1, none⟩ = some (.int .i64 (H0 : Int)) ∧ w'.cell? ⟨g2, 2, none⟩ = some (.slice A2 ships.length c2)) (ds := []) #[false, false, false, false, false, false, false, false, false, false, false, false] (by kernel_rfl) rfl rfl ⟨(blk_cell H2.out 0).trans rfl, (blk_cell H2.out 1).trans rfl, (blk_cell H2.out 2).trans rfl⟩ (fun hHeld => ?_)
  refine with_tabW spec_l09Shares.tab1 spec_l09Shares.bits1 (fun HT_ HW_ => ?_)
  generalize hq_ : w1.drew = wd_ at H2 HB hHeld ⊢
  clear hq_
  refine take_ (i := 0) (N := some 11) (v := ?_) (a' := ?_) (flg_ 12 1) rfl rfl (take_ofW HT_.out HW_.out (by kernel_rfl)) (fun _ _ _ h => h) (Or.inl ⟨by rfl, ?_⟩) hHeld ?_ ?_
  rotate_left
  · rintro w' ⟨s0_, s1_, s2_⟩
    go_simp
    with_reducible rfl
  rotate_left
  · simp only [Act.put, sz_, s0_, s1_, i64_w, i32_w]
    rfl
  refine pure_ (i := 2) (N := some 13) (v := ?_) (a' := ?_) (flg_ 12 5) rfl rfl (any_of HT_.out (by kernel_rfl)) (fun _ _ _ h => h) (Or.inl ⟨by rfl, ?_⟩) ?_ ?_
  rotate_left
  · intro w'
    go_simp
    with_reducible rfl
  rotate_left
  · simp only [Act.put, sz_, s0_, s1_, i64_w, i32_w]
    rfl
  refine pure_ (i := 4) (N := some 15) (v := ?_) (a' := ?_) (flg_ 12 21) rfl rfl (any_of HT_.out (by kernel_rfl)) (fun _ _ _ h => h) (Or.inl ⟨by rfl, ?_⟩) ?_ ?_
  rotate_left
  · intro w'
    go_simp
    with_reducible rfl
  rotate_left
  · simp only [Act.put, sz_, s0_, s1_, i64_w, i32_w]
    rfl
  refine take_ (i := 5) (N := some 16) (v := ?_) (a' := ?_) (flg_ 12 53) rfl rfl (take_ofW HT_.out HW_.out (by kernel_rfl)) (fun _ _ _ h => h) (Or.inl ⟨by rfl, ?_⟩) hHeld ?_ ?_
  rotate_left
  · rintro w' ⟨s0_, s1_, s2_⟩
    go_simp
    with_reducible rfl
  rotate_left
  · simp only [Act.put, sz_, s0_, s1_, i64_w, i32_w]
    rfl
  refine pure_ (i := 6) (N := some 17) (v := ?_) (a' := ?_) (flg_ 12 117) rfl rfl (any_of HT_.out (by kernel_rfl)) (fun _ _ _ h => h) (Or.inl ⟨by rfl, ?_⟩) ?_ ?_
  rotate_left
  · intro w'
    go_simp
    with_reducible rfl
  rotate_left
  · simp only [Act.put, sz_, s0_, s1_, i64_w, i32_w]
    rfl
  refine take_ (i := 7) (N := some 18) (v := ?_) (a' := ?_) (flg_ 12 245) rfl rfl (take_ofW HT_.out HW_.out (by kernel_rfl)) (fun _ _ _ h => h) (Or.inl ⟨by rfl, ?_⟩) hHeld ?_ ?_
  rotate_left
  · rintro w' ⟨s0_, s1_, s2_⟩
    go_simp
    with_reducible rfl
  rotate_left
  · simp only [Act.put, sz_, s0_, s1_, i64_w, i32_w]
    rfl
  refine pure_ (i := 8) (N := some 19) (v := ?_) (a' := ?_) (flg_ 12 501) rfl rfl (any_of HT_.out (by kernel_rfl)) (fun _ _ _ h => h) (Or.inl ⟨by rfl, ?_⟩) ?_ ?_
  rotate_left
  · intro w'
    go_simp
    with_reducible rfl
  rotate_left
  · simp only [Act.put, sz_, s0_, s1_, i64_w, i32_w]
    rfl
  refine two_ (i := 1) (j := 9) (Ni := some 12) (Nj := some 20) (flg_ 12 503) (flg_ 12 1013) rfl rfl rfl rfl (two_of HT_.out (by kernel_rfl)) (by decide) (by decide) (fun K hK => ?_) (fun K hK => ?_)
  focus
    refine Kd.R_lit_step (Kd.int .i64) _ 2 ?hg (N := 12) ?hd (xs := ([] : List Int)) (inner := []) (ok := fun _ => True) (okp := fun _ => True) ?hr ?hp (fun _ hk => hk) trivial (Below.refl _ _) (Nat.le_refl _) (by simp) ?_; (case hd => rfl); (case hg => rfl); (case hr => first | (go_simp; done) | (go_simp; rfl)); (case hp => exact Reps.none _ _)
    intro v12 wq1_ ho hb hg_ hnew_
    clear hg_ hnew_
    obtain ⟨A12, c12, e12⟩ := Kd.R_slice ho
    subst e12
    clear ho
    have u2_ := Aside0.mk (blk_below H2.out hb)
    have uB_ := Aside0.mk (below_step HB.out hb)
    clear hb H2 HB
    have H2 := u2_
    have HB := uB_
    clear u2_ uB_
    refine hK.out _ _ ⟨(blk_cell H2.out 0).trans rfl, (blk_cell H2.out 1).trans rfl, (blk_cell H2.out 2).trans rfl⟩ (fun hHeld => ?_)
    clear hK K
    refine norm_ (a' := ?_) ?_ ?_
    rotate_left
    · show Act.put _ (some 12) _ = _
      simp only [Act.put, sz_, s0_, s1_, i64_w, i32_w]
      rfl
    refine two_ (i := 3) (j := 9) (Ni := some 14) (Nj := some 20) (flg_ 12 511) (flg_ 12 1015) rfl rfl rfl rfl (two_of HT_.out (by kernel_rfl)) (by decide) (by decide) (fun K hK => ?_) (fun K hK => ?_)
    focus
      refine goes_ Try.func64 (by kernel_rfl) rfl #[.agg #[.int .i64 (W0 : Int), .int .i64 (H0 : Int), .slice A2 ships.length c2], .slice A12 ([] : List Int).length c12, .int .i64 0, .slice A3 T.length c3, .int .i64 (-1)] (by rfl) rfl rfl (by (try simp only [List.map_toArray, List.map_cons, List.map_nil]); first | done | rfl) ?_
      refine (spec_l09Go.does W0 H0 ships A2 c2 A3 c3 T HW.out.2 HH.out.2 HSz.out.2 HC2.out HTc.out HEnv.out.1 HEnv.out.2 ships.length [] 0 (-1) A12 c12 (fun _ => False) wq1_ HLen.out InPl.nil (by omega) (fnil_ _ _ _) (Nat.zero_le _) (Kd.C_below HT0.out HB.out) (Kd.C_below HSh.out HB.out)).mono ?_
      rintro e wq2_ ⟨v14, rfl, ho, hb⟩
      obtain ⟨A14, c14, e14⟩ := Kd.N_slice ho
      subst e14
      rw [HFl.out] at ho ⊢
      refine ⟨_, rfl, ?_⟩
      have uL0_ := Aside0.mk (Kd.N_mono (ok' := fun _ => True) (Kd.N_lower ho (below_size HB.out)) (fun _ _ => trivial))
      clear ho
      have u2_ := Aside0.mk (blk_below H2.out hb)
      have uB_ := Aside0.mk (below_step HB.out hb)
      clear hb H2 HB
      have H2 := u2_
      have HB := uB_
      clear u2_ uB_
      have HL := uL0_
      clear uL0_
      refine hK.out _ _ ⟨(blk_cell H2.out 0).trans rfl, (blk_cell H2.out 1).trans rfl, (blk_cell H2.out 2).trans rfl⟩ (fun hHeld => ?_)
      clear hK K
      refine norm_ (a' := ?_) ?_ ?_
      rotate_left
      · show Act.put _ (some 14) _ = _
        simp only [Act.put, sz_, s0_, s1_, i64_w, i32_w]
        rfl
      refine pure_ (i := 10) (N := some 6) (v := ?_) (a' := ?_) (flg_ 12 1535) rfl rfl (any_of HT_.out (by kernel_rfl)) (fun _ _ _ h => h) (Or.inl ⟨by rfl, ?_⟩) ?_ ?_
      rotate_left
      · intro w'
        go_simp
        with_reducible rfl
      rotate_left
      · simp only [Act.put, sz_, s0_, s1_, i64_w, i32_w]
        rfl
      refine one_ (i := 9) (N := some 20) (flg_ 12 2047) rfl rfl (one_of HT_.out (by kernel_rfl)) (by decide) (fun K hK => ?_)
      refine Kd.R_make_step (Kd.int .i64) _ 2 (by rfl) (N := 20) rfl 22 _ _ rfl (wrap64 ((W0 : Int) * (H0 : Int))) rfl rfl Try.underlying22 (.int .i64 0) 8 info2 rfl (by decide) (by omega) 0 (ok := fun _ => True) (okp := fun _ => True) rfl (fun _ hk => hk) trivial HN0.out HN8.out (Below.refl _ _) (Nat.le_refl _) ?_
      intro v20 wq3_ ho hb hg_ hnew_
      clear hg_ hnew_
      rw [HNe.out, ← sharesV_nil] at ho
      obtain ⟨go, co, e20, hgo_, _, _⟩ := Kd.R_form ho (by rw [sharesV_len]; exact HNp.out)
      rw [sharesV_len] at e20
      subst e20
      have HZO := Aside0.mk (show w.heap.size ≤ go by have := below_size HB.out; omega)
      have uO0_ := Aside0.mk (Kd.R_mono (ok' := fun k => k = go) (Kd.R_tight rfl (Kd.R_lower ho (below_size HB.out))) (fun k hk => by injection hk))
      clear ho
      have uL0_ := Aside0.mk (Kd.N_mono (ok' := fun k => k ≠ go) (Kd.N_bound HL.out) (fun k hk e_ => by have := hk.2; omega))
      clear HL
      have HL := uL0_
      clear uL0_
      clear hgo_
      have u2_ := Aside0.mk (blk_below H2.out hb)
      have uB_ := Aside0.mk (below_step HB.out hb)
      have uL_ := Aside0.mk (Kd.N_below HL.out hb)
      clear hb H2 HB HL
      have H2 := u2_
      have HB := uB_
      have HL := uL_
      clear u2_ uB_ uL_
      have HO := uO0_
      clear uO0_
      refine hK.out _ _ ⟨(blk_cell H2.out 0).trans rfl, (blk_cell H2.out 1).trans rfl, (blk_cell H2.out 2).trans rfl⟩ (fun hHeld => ?_)
      clear hK K
      refine norm_ (a' := ?_) ?_ ?_
      rotate_left
      · show Act.put _ (some 20) _ = _
        simp only [Act.put, sz_, s0_, s1_, i64_w, i32_w]
        rfl
      generalize wq3_ = wz_ at H2 HB HO HL hHeld ⊢
    rotate_left
    focus
      refine Kd.R_make_step (Kd.int .i64) _ 2 (by rfl) (N := 20) rfl 22 _ _ rfl (wrap64 ((W0 : Int) * (H0 : Int))) rfl rfl Try.underlying22 (.int .i64 0) 8 info2 rfl (by decide) (by omega) 0 (ok := fun _ => True) (okp := fun _ => True) rfl (fun _ hk => hk) trivial HN0.out HN8.out (Below.refl _ _) (Nat.le_refl _) ?_
      intro v20 wq4_ ho hb hg_ hnew_
      clear hg_ hnew_
      rw [HNe.out, ← sharesV_nil] at ho
      obtain ⟨go, co, e20, hgo_, _, _⟩ := Kd.R_form ho (by rw [sharesV_len]; exact HNp.out)
      rw [sharesV_len] at e20
      subst e20
      have HZO := Aside0.mk (show w.heap.size ≤ go by have := below_size HB.out; omega)
      have uO0_ := Aside0.mk (Kd.R_mono (ok' := fun k => k = go) (Kd.R_tight rfl (Kd.R_lower ho (below_size HB.out))) (fun k hk => by injection hk))
      clear ho
      clear hgo_
      have u2_ := Aside0.mk (blk_below H2.out hb)
      have uB_ := Aside0.mk (below_step HB.out hb)
      clear hb H2 HB
      have H2 := u2_
      have HB := uB_
      clear u2_ uB_
      have HO := uO0_
      clear uO0_
      refine hK.out _ _ ⟨(blk_cell H2.out 0).trans rfl, (blk_cell H2.out 1).trans rfl, (blk_cell H2.out 2).trans rfl⟩ (fun hHeld => ?_)
      clear hK K
      refine norm_ (a' := ?_) ?_ ?_
      rotate_left
      · show Act.put _ (some 20) _ = _
        simp only [Act.put, sz_, s0_, s1_, i64_w, i32_w]
        rfl
      refine one_ (i := 3) (N := some 14) (flg_ 12 1023) rfl rfl (one_of HT_.out (by kernel_rfl)) (by decide) (fun K hK => ?_)
      refine goes_ Try.func64 (by kernel_rfl) rfl #[.agg #[.int .i64 (W0 : Int), .int .i64 (H0 : Int), .slice A2 ships.length c2], .slice A12 ([] : List Int).length c12, .int .i64 0, .slice A3 T.length c3, .int .i64 (-1)] (by rfl) rfl rfl (by (try simp only [List.map_toArray, List.map_cons, List.map_nil]); first | done | rfl) ?_
      refine (spec_l09Go.does W0 H0 ships A2 c2 A3 c3 T HW.out.2 HH.out.2 HSz.out.2 HC2.out HTc.out HEnv.out.1 HEnv.out.2 ships.length [] 0 (-1) A12 c12 (fun _ => False) wq4_ HLen.out InPl.nil (by omega) (fnil_ _ _ _) (Nat.zero_le _) (Kd.C_below HT0.out HB.out) (Kd.C_below HSh.out HB.out)).mono ?_
      rintro e wq5_ ⟨v14, rfl, ho, hb⟩
      obtain ⟨A14, c14, e14⟩ := Kd.N_slice ho
      subst e14
      rw [HFl.out] at ho ⊢
      refine ⟨_, rfl, ?_⟩
      have hlt := Kd.R_lt HO.out go rfl
      have uL0_ := Aside0.mk (Kd.N_mono (ok' := fun k => k ≠ go) (Kd.N_lower ho (below_size HB.out)) (fun k hk e_ => by rcases hk with hk | hk; exact hk; omega))
      clear ho hlt
      have u2_ := Aside0.mk (blk_below H2.out hb)
      have uB_ := Aside0.mk (below_step HB.out hb)
      have uO_ := Aside0.mk (Kd.R_below HO.out hb)
      clear hb H2 HB HO
      have H2 := u2_
      have HB := uB_
      have HO := uO_
      clear u2_ uB_ uO_
      have HL := uL0_
      clear uL0_
      refine hK.out _ _ ⟨(blk_cell H2.out 0).trans rfl, (blk_cell H2.out 1).trans rfl, (blk_cell H2.out 2).trans rfl⟩ (fun hHeld => ?_)
      clear hK K
      refine norm_ (a' := ?_) ?_ ?_
      rotate_left
      · show Act.put _ (some 14) _ = _
        simp only [Act.put, sz_, s0_, s1_, i64_w, i32_w]
        rfl
      refine pure_ (i := 10) (N := some 6) (v := ?_) (a' := ?_) (flg_ 12 2047) rfl rfl (any_of HT_.out (by kernel_rfl)) (fun _ _ _ h => h) (Or.inl ⟨by rfl, ?_⟩) ?_ ?_
      rotate_left
      · intro w'
        go_simp
        with_reducible rfl
      rotate_left
      · simp only [Act.put, sz_, s0_, s1_, i64_w, i32_w]
        rfl
      generalize wq5_ = wz_ at H2 HB HO HL hHeld ⊢
    rotate_left
  rotate_left 2
  focus
    refine Kd.R_make_step (Kd.int .i64) _ 2 (by rfl) (N := 20) rfl 22 _ _ rfl (wrap64 ((W0 : Int) * (H0 : Int))) rfl rfl Try.underlying22 (.int .i64 0) 8 info2 rfl (by decide) (by omega) 0 (ok := fun _ => True) (okp := fun _ => True) rfl (fun _ hk => hk) trivial HN0.out HN8.out (Below.refl _ _) (Nat.le_refl _) ?_
    intro v20 wq6_ ho hb hg_ hnew_
    clear hg_ hnew_
    rw [HNe.out, ← sharesV_nil] at ho
    obtain ⟨go, co, e20, hgo_, _, _⟩ := Kd.R_form ho (by rw [sharesV_len]; exact HNp.out)
    rw [sharesV_len] at e20
    subst e20
    have HZO := Aside0.mk (show w.heap.size ≤ go by have := below_size HB.out; omega)
    have uO0_ := Aside0.mk (Kd.R_mono (ok' := fun k => k = go) (Kd.R_tight rfl (Kd.R_lower ho (below_size HB.out))) (fun k hk => by injection hk))
    clear ho
    clear hgo_
    have u2_ := Aside0.mk (blk_below H2.out hb)
    have uB_ := Aside0.mk (below_step HB.out hb)
    clear hb H2 HB
    have H2 := u2_
    have HB := uB_
    clear u2_ uB_
    have HO := uO0_
    clear uO0_
    refine hK.out _ _ ⟨(blk_cell H2.out 0).trans rfl, (blk_cell H2.out 1).trans rfl, (blk_cell H2.out 2).trans rfl⟩ (fun hHeld => ?_)
    clear hK K
    refine norm_ (a' := ?_) ?_ ?_
    rotate_left
    · show Act.put _ (some 20) _ = _
      simp only [Act.put, sz_, s0_, s1_, i64_w, i32_w]
      rfl
    refine one_ (i := 1) (N := some 12) (flg_ 12 1015) rfl rfl (one_of HT_.out (by kernel_rfl)) (by decide) (fun K hK => ?_)
    refine Kd.R_lit_step (Kd.int .i64) _ 2 ?hg (N := 12) ?hd (xs := ([] : List Int)) (inner := []) (ok := fun _ => True) (okp := fun _ => True) ?hr ?hp (fun _ hk => hk) trivial (Below.refl _ _) (Nat.le_refl _) (by simp) ?_; (case hd => rfl); (case hg => rfl); (case hr => first | (go_simp; done) | (go_simp; rfl)); (case hp => exact Reps.none _ _)
    intro v12 wq7_ ho hb hg_ hnew_
    clear hg_ hnew_
    obtain ⟨A12, c12, e12⟩ := Kd.R_slice ho
    subst e12
    clear ho
    have u2_ := Aside0.mk (blk_below H2.out hb)
    have uB_ := Aside0.mk (below_step HB.out hb)
    have uO_ := Aside0.mk (Kd.R_below HO.out hb)
    clear hb H2 HB HO
    have H2 := u2_
    have HB := uB_
    have HO := uO_
    clear u2_ uB_ uO_
    refine hK.out _ _ ⟨(blk_cell H2.out 0).trans rfl, (blk_cell H2.out 1).trans rfl, (blk_cell H2.out 2).trans rfl⟩ (fun hHeld => ?_)
    clear hK K
    refine norm_ (a' := ?_) ?_ ?_
    rotate_left
    · show Act.put _ (some 12) _ = _
      simp only [Act.put, sz_, s0_, s1_, i64_w, i32_w]
      rfl
    refine one_ (i := 3) (N := some 14) (flg_ 12 1023) rfl rfl (one_of HT_.out (by kernel_rfl)) (by decide) (fun K hK => ?_)
    refine goes_ Try.func64 (by kernel_rfl) rfl #[.agg #[.int .i64 (W0 : Int), .int .i64 (H0 : Int), .slice A2 ships.length c2], .slice A12 ([] : List Int).length c12, .int .i64 0, .slice A3 T.length c3, .int .i64 (-1)] (by rfl) rfl rfl (by (try simp only [List.map_toArray, List.map_cons, List.map_nil]); first | done | rfl) ?_
    refine (spec_l09Go.does W0 H0 ships A2 c2 A3 c3 T HW.out.2 HH.out.2 HSz.out.2 HC2.out HTc.out HEnv.out.1 HEnv.out.2 ships.length [] 0 (-1) A12 c12 (fun _ => False) wq7_ HLen.out InPl.nil (by omega) (fnil_ _ _ _) (Nat.zero_le _) (Kd.C_below HT0.out HB.out) (Kd.C_below HSh.out HB.out)).mono ?_
    rintro e wq8_ ⟨v14, rfl, ho, hb⟩
    obtain ⟨A14, c14, e14⟩ := Kd.N_slice ho
    subst e14
    rw [HFl.out] at ho ⊢
    refine ⟨_, rfl, ?_⟩
    have hlt := Kd.R_lt HO.out go rfl
    have uL0_ := Aside0.mk (Kd.N_mono (ok' := fun k => k ≠ go) (Kd.N_lower ho (below_size HB.out)) (fun k hk e_ => by rcases hk with hk | hk; exact hk; omega))
    clear ho hlt
    have u2_ := Aside0.mk (blk_below H2.out hb)
    have uB_ := Aside0.mk (below_step HB.out hb)
    have uO_ := Aside0.mk (Kd.R_below HO.out hb)
    clear hb H2 HB HO
    have H2 := u2_
    have HB := uB_
    have HO := uO_
    clear u2_ uB_ uO_
    have HL := uL0_
    clear uL0_
    refine hK.out _ _ ⟨(blk_cell H2.out 0).trans rfl, (blk_cell H2.out 1).trans rfl, (blk_cell H2.out 2).trans rfl⟩ (fun hHeld => ?_)
    clear hK K
    refine norm_ (a' := ?_) ?_ ?_
    rotate_left
    · show Act.put _ (some 14) _ = _
      simp only [Act.put, sz_, s0_, s1_, i64_w, i32_w]
      rfl
    refine pure_ (i := 10) (N := some 6) (v := ?_) (a' := ?_) (flg_ 12 2047) rfl rfl (any_of HT_.out (by kernel_rfl)) (fun _ _ _ h => h) (Or.inl ⟨by rfl, ?_⟩) ?_ ?_
    rotate_left
    · intro w'
      go_simp
      with_reducible rfl
    rotate_left
    · simp only [Act.put, sz_, s0_, s1_, i64_w, i32_w]
      rfl
    generalize wq8_ = wz_ at H2 HB HO HL hHeld ⊢
  rotate_left
  all_goals
    refine pure_ (i := 11) (N := some 7) (v := ?_) (a' := ?_) (flg_ 12 4095) rfl rfl (any_of HT_.out (by kernel_rfl)) (fun _ _ _ h => h) (Or.inl ⟨by rfl, ?_⟩) ?_ ?_
    rotate_left
    · intro w'
      go_simp
      with_reducible rfl
    rotate_left
    · simp only [Act.put, sz_, s0_, s1_, i64_w, i32_w]
      rfl
    refine done_ (done_of HT_.out (by kernel_rfl)) ?_
    clear H2 hHeld
    (try go_wp2_with fail)
    go_loopg [8] fls.length (fun gg s8 wr => ∃ i : Nat, i ≤ fls.length ∧ fls.length - i ≤ gg ∧ s8 = .int .i64 i ∧ Aside0 (Kd.N (Kd.slice 2 (Kd.int .i64)) 22 wr w.heap.size (fun k => k ≠ go) (.slice A14 fls.length c14) fls) ∧ Aside0 (Kd.R (Kd.int .i64) 2 wr w.heap.size (fun k => k = go) (.slice (some ⟨go, 0, none⟩) N co) (sharesV N (fls.take i))) ∧ Aside0 (Below w.heap.size w wr))
    case atStart => exact ⟨0, Nat.zero_le _, Nat.le_refl _, rfl, HL, HO, HB⟩
    case round =>
      clear HL HO HB
      obtain ⟨i, hi, hgi, rfl, HL, HO, HB⟩ := hrel
      by_cases hlt : i < fls.length
      · obtain ⟨ad, cl_, rfl, hcl_, hK_, hcc⟩ := Kd.C_get (Kd.N_reads' HL.out).2.2 [] (i : Int) (by omega) (by omega)
        obtain ⟨Ae, ce, rfl, hle, hCe⟩ := hK_
        have hxe := hcc 0 _ rfl
        obtain ⟨fe, hfe⟩ : ∃ fe, fls[i] = fe := ⟨_, rfl⟩
        rw [Int.toNat_natCast, List.getD_eq_getElem?_getD, List.getElem?_eq_getElem hlt, Option.getD_some, hfe] at hxe hle hCe
        rw [show (Kd.slice 2 (Kd.int .i64)).sz = 1 from rfl, Nat.mul_one, Nat.add_zero] at hxe
        obtain ⟨hfl, V, hV, hV2⟩ := HNum.out fe (by rw [← hfe]; exact List.getElem_mem hlt)
        obtain ⟨ks, hks⟩ := specSet_ev fe hfl
        have hks2 := hks ks (Nat.le_refl _)
        rw [hV] at hks2
        obtain ⟨kc, hkc⟩ := specCells_ev (V : Int)
        obtain ⟨cs, hcs⟩ : ∃ cs, chosenTo (bitIn (V : Int)) 25 = cs := ⟨_, rfl⟩
        have hkc2 := hkc kc (Nat.le_refl _)
        simp only [hcs] at hkc2
        have HStep := Aside0.mk (fun (j : Nat) (hj : j < cs.length) => show ∃ c : Nat, cs[j] = (c : Int) ∧ c < N ∧ (c : Int) ∉ cs.take j by subst hcs; exact chosen_step hV2 HN25.out hj)
        have HFin := Aside0.mk (show shareSome N (fls.take i) cs = sharesV N (fls.take (i + 1)) by
          rw [List.take_succ_eq_append_getElem hlt, hfe, ← shareSome_all (n := 25) _ _ HN25.out, hV, hcs])
        have hcs25 : cs.length ≤ 25 := by rw [← hcs]; exact chosenTo_le _ 25
        have HSet := Aside0.mk hks2
        have HCs := Aside0.mk hkc2
        have HCe := Aside0.mk hCe
        have HLe := Aside0.mk hle
        have HC25 := Aside0.mk hcs25
        have q1 := decide_eq_true (show (i : Int) < (fls.length : Int) by omega)
        have q2 := decide_eq_true hlt
        have q3 := eq_true (show (i : Int) < (fls.length : Int) by omega)
        have q4 := eq_true (show (0 : Int) ≤ (i : Int) by omega)
        have q5 := eq_true hlt
        have HIm := Aside0.mk (show fls.length - (i + 1) < gk by omega)
        have HIr := Aside0.mk (show i + 1 ≤ fls.length by omega)
        have HIs := Aside0.mk (show wrap64 ((i : Int) + 1) = ((i + 1 : Nat) : Int) from wrap_nat1 hlt (by have := HFlen.out; omega))
        have HDn := Aside0.mk (show (fls.take i).length ≤ 1000000 by rw [List.length_take]; have := HFlen.out; omega)
        clear hcc hcl_ hks hks2 hkc hkc2 hcs hcs25 hV hV2 hfl hfe hle hCe hi hgi hlt
        go_wp2_with (first | (go_at_call 70; refine (spec_l09Set.calls ks Ae ce fe (V : Int) _ HCe.out HLe.out HSet.out).mono ?_; rintro e w3 ⟨rfl, hd⟩; have hb := hd.below; clear hd; (try clear hxe); have vHL_ := Aside0.mk (Kd.N_below HL.out hb); have vHO_ := Aside0.mk (Kd.R_below HO.out hb); have vHB_ := Aside0.mk (below_step HB.out hb); clear hb HL HO HB; have HL := vHL_; have HO := vHO_; have HB := vHB_; clear vHL_ vHO_ vHB_) | (go_at_call 69; refine (spec_l09Cells.calls kc (V : Int) cs _ HCs.out).mono ?_; rintro e w4 ⟨v32, rfl, ho, hb⟩; obtain ⟨Ac, cc, ec⟩ := Kd.R_slice ho; subst ec; have hlt := Kd.R_lt HO.out go rfl; have HC := Aside0.mk (Kd.R_lower (Kd.R_mono (ok' := fun k => k ≠ go) (Kd.R_bound ho) (fun k hk e_ => by have h1 := hk.2.1; omega)) (below_size HB.out)); clear ho hlt; have vHL_ := Aside0.mk (Kd.N_below HL.out hb); have vHO_ := Aside0.mk (Kd.R_below HO.out hb); have vHB_ := Aside0.mk (below_step HB.out hb); clear hb HL HO HB; have HL := vHL_; have HO := vHO_; have HB := vHB_; clear vHL_ vHO_ vHB_))
        (try clear hxe)
        clear q1 q2 q3 q4 q5
        go_loopg [10] cs.length (fun gg s10 wr => ∃ j : Nat, j ≤ cs.length ∧ cs.length - j ≤ gg ∧ s10 = .int .i64 j ∧ Aside0 (Kd.N (Kd.slice 2 (Kd.int .i64)) 22 wr w.heap.size (fun k => k ≠ go) (.slice (some ad) fls.length c14) fls) ∧ Aside0 (Kd.R (Kd.int .i64) 2 wr w.heap.size (fun k => k = go) (.slice (some ⟨go, 0, none⟩) N co) (shareSome N (fls.take i) (cs.take j))) ∧ Aside0 (Kd.R (Kd.int .i64) 2 wr w.heap.size (fun k => k ≠ go) (.slice Ac cs.length cc) cs) ∧ Aside0 (Below w.heap.size w wr))
        case atStart => exact ⟨0, Nat.zero_le _, Nat.le_refl _, rfl, HL, ⟨by rw [List.take_zero, shareSome_nil]; exact HO.out⟩, HC, HB⟩
        case round =>
          clear HL HO HC HB
          obtain ⟨j, hj, hgj, rfl, HL, HO, HC, HB⟩ := hrel
          by_cases hlt : j < cs.length
          · obtain ⟨c, hc, hcN, hcn⟩ := HStep.out j hlt
            obtain ⟨adc, rfl, hxc⟩ := Kd.at_int (Kd.R_reads' HC.out).2.2 (j : Int) (by omega) (by omega)
            rw [Int.toNat_natCast, rd_get cs j hlt, hc] at hxc
            obtain ⟨ado, eo, hxo⟩ := Kd.at_int (Kd.R_reads' HO.out).2.2 (c : Int) (by omega) (by rw [shareSome_len]; omega)
            injection eo with eo
            subst eo
            rw [Int.toNat_natCast, shareSome_rd _ _ hcN hcn, add_at, Nat.zero_add] at hxo
            have hsb := shareAt_bound (fls.take i) c
            obtain ⟨cells_, hrb⟩ := row_blk_ HO.out (by rw [shareSome_len]; exact HNp.out)
            have hfR := blk_frozen hrb c
            obtain ⟨z, hz⟩ : ∃ z, shareAt (fls.take i) c + 1 = z := ⟨_, rfl⟩
            have HSv := Aside0.mk (show (shareSome N (fls.take i) (cs.take j)).set c z = shareSome N (fls.take i) (cs.take (j + 1)) by rw [← hz, shareSome_set _ _ hcN hcn, List.take_succ_eq_append_getElem hlt, hc])
            obtain ⟨sv, hsv⟩ : ∃ sv, shareAt (fls.take i) c = sv := ⟨_, rfl⟩
            rw [hsv] at hz hsb hxo
            have hwz : wrap64 (sv + 1) = z := by rw [← hz]; have := HDn.out; unfold wrap64; omega
            have p1 := decide_eq_true (show (j : Int) < (cs.length : Int) by omega)
            have p2 := decide_eq_true hlt
            have p3 := eq_true (show (j : Int) < (cs.length : Int) by omega)
            have p4 := eq_true (show (0 : Int) ≤ (j : Int) by omega)
            have p5 := eq_true hlt
            have p6 := eq_true (show (0 : Int) ≤ (c : Int) by omega)
            have p7 := eq_true (show (c : Int) < (N : Int) by omega)
            have p8 := eq_true hcN
            have HJm := Aside0.mk (show cs.length - (j + 1) < gk by omega)
            have HJr := Aside0.mk (show j + 1 ≤ cs.length by omega)
            have HJs := Aside0.mk (show wrap64 ((j : Int) + 1) = ((j + 1 : Nat) : Int) from wrap_one (a := j) (by have := HC25.out; omega))
            clear hsb hrb hz hsv hc hcn hcN hj hgj hlt
            go_wp2_with fail
            go_roundg (cs.length - (j + 1))
            case measure => exact HJm.out
            case rel => exact ⟨j + 1, HJr.out, Nat.le_refl _, (by first | rfl | exact congrArg (Value.int .i64) HJs.out), ⟨Kd.N_far (p := ⟨go, c, none⟩) HL.out (fun _ hk => hk) (.int .i64 z)⟩, ⟨by have vO_ := Kd.R_putn HO.out (c : Int) z; rw [Int.toNat_natCast, HSv.out] at vO_; exact vO_⟩, ⟨Kd.R_far (p := ⟨go, c, none⟩) HC.out (fun _ hk => hk) (.int .i64 z)⟩, ⟨below_set HB.out HZO.out⟩⟩
          · have hje : j = cs.length := by omega
            subst hje
            have p1 := decide_eq_false (show ¬ (cs.length : Int) < (cs.length : Int) by omega)
            go_wp2_with fail
            go_roundg (fls.length - (i + 1))
            case measure => exact HIm.out
            case rel => exact ⟨i + 1, HIr.out, Nat.le_refl _, (by first | rfl | exact congrArg (Value.int .i64) HIs.out), HL, ⟨by have := HO.out; rw [List.take_length, HFin.out] at this; exact this⟩, HB⟩
      · have hie : i = fls.length := by omega
        subst hie
        have q1 := decide_eq_false (show ¬ (fls.length : Int) < (fls.length : Int) by omega)
        go_wp2_with fail
        go_ret2
        exact ⟨_, rfl, Kd.R_mono (by have := HO.out; rw [List.take_length] at this; exact this) (fun _ _ => trivial), HB.out⟩
/-! ### spec_l09Open: function 94 -/
-- EXTERNAL: by hand
-- seaV_nat shotsIn
def openTo (N j : Nat) : List Bool := (List.range N).map fun c => decide (c < j)
/-- The cells at which no shot was. -/
def openB (N : Nat) (T : List S93) : List Bool := (List.range N).map fun (c : Nat) => !(T.any fun x => x.f0 == (c : Int))
theorem openTo_len (N j : Nat) : (openTo N j).length = N := by simp [openTo]
theorem openB_len (N : Nat) (T : List S93) : (openB N T).length = N := by simp [openB]
theorem openTo_zero (N : Nat) : openTo N 0 = List.replicate N false := by
  refine List.ext_getElem (by simp [openTo]) (fun i h1 h2 => ?_)
  simp [openTo]
theorem openTo_all (N : Nat) : openTo N N = openB N [] := by
  unfold openTo openB
  refine List.map_congr_left (fun c h => ?_)
  have := List.mem_range.1 h
  simp [this]
theorem openTo_set {N j : Nat} (_h : j < N) : (openTo N j).set j true = openTo N (j + 1) := by
  refine List.ext_getElem (by simp [openTo]) (fun i h1 h2 => ?_)
  rw [List.getElem_set]
  by_cases e : j = i
  · subst e
    simp [openTo]
  · rw [if_neg e]
    simp only [openTo, List.getElem_map, List.getElem_range]
    exact decide_eq_decide.2 (by omega)
theorem openB_set {N c : Nat} (T : List S93) (x : S93) (hx : x.f0 = (c : Int)) : (openB N T).set c false = openB N (T ++ [x]) := by
  refine List.ext_getElem (by simp [openB]) (fun i h1 h2 => ?_)
  rw [List.getElem_set]
  simp only [openB, List.getElem_map, List.getElem_range, List.any_append, List.any_cons, List.any_nil, Bool.or_false, hx]
  by_cases e : c = i
  · subst e
    simp
  · rw [if_neg e, show ((c : Int) == (i : Int)) = false from beq_eq_false_iff_ne.mpr (by omega), Bool.or_false]
def shotsBelow (N : Nat) (T : List S93) : Bool := T.all fun x => decide (0 ≤ x.f0) && decide (x.f0 < (N : Int))
def spec_l09Open.f (a0_0 a0_1 : Int) (l0_2 : List Int) (l1 : List S93) : Option (List Bool) := if seaV a0_0 a0_1 l0_2 = true ∧ shotsBelow (a0_0.toNat * a0_1.toNat) l1 = true ∧ l1.length ≤ 1048576 then some (openB (a0_0.toNat * a0_1.toNat) l1) else none
theorem wrap_nat4_ {N : Nat} (h : N ≤ 25) : wrap64 (N : Int) = (N : Int) := by unfold wrap64; omega
theorem bool_blk_ {W : World} {base go n co : Nat} {ok : Nat → Prop} {xs : List Bool} (ho : Kd.R Kd.bool 4 W base ok (.slice (some ⟨go, 0, none⟩) n co) xs) (h : 0 < xs.length) : ∃ cells, W.heap[go]? = some (.cells cells 4 (0, 0)) := by
  obtain ⟨g, cap, e2, _, _, cells, hc⟩ := Kd.R_form ho h
  injection e2 with e3
  injection e3 with e3
  injection e3 with e3
  subst e3
  exact ⟨cells, hc⟩
set_option maxHeartbeats 8000000 in
set_option maxRecDepth 100000 in
theorem spec_l09Open.calls (a0_0 a0_1 : Int) (A2 : Option Addr) (c2 : Nat) (ships : List Int) (A3 : Option Addr) (c3 : Nat) (T : List S93) (r : List Bool) (w : World) (hr0_2 : Kd.C (Kd.int .i64) w A2 ships.length ships) (hc0_2 : ships.length ≤ c2) (hr1 : Kd.C k93 w A3 T.length T) (hc1 : T.length ≤ c3) (h : spec_l09Open.f a0_0 a0_1 ships T = some r) :
    Calls Try.prog 94 #[.agg #[.int .i64 a0_0, .int .i64 a0_1, .slice A2 ships.length c2], .slice A3 T.length c3] w fun e w' => ∃ v0_ : Value, e = .returned (v0_) ∧ Kd.R Kd.bool 4 w' w.heap.size (fun _ => True) v0_ r ∧ Below w.heap.size w w' := by
  unfold spec_l09Open.f at h
  split at h
  case isFalse => cases h
  rename_i hs
  obtain ⟨hs, hsb, hTl⟩ := hs
  obtain ⟨⟨W0, rfl, hw1, hw5⟩, ⟨H0, rfl, hh1, hh5⟩, hs1, hs3⟩ := seaV_nat hs
  simp only [Int.toNat_natCast, Option.some.injEq] at h hsb
  obtain ⟨N, hN⟩ : ∃ N, W0 * H0 = N := ⟨_, rfl⟩
  rw [hN] at h hsb
  subst h
  have HT := Aside0.mk hr1
  have HTc := Aside0.mk hc1
  have HTl := Aside0.mk hTl
  have HIn := Aside0.mk (fun (i : Nat) (hi : i < T.length) => show 0 ≤ T[i].f0 ∧ T[i].f0 < (N : Int) by
    have := List.all_eq_true.1 hsb _ (List.getElem_mem hi)
    simpa using this)
  have hN25 : N ≤ 25 := by rw [← hN]; exact Nat.mul_le_mul hw5 hh5
  have HN25 := Aside0.mk hN25
  have HNp := Aside0.mk (show 0 < N by rw [← hN]; exact Nat.mul_pos (by omega) (by omega))
  have hwn : wrap64 ((W0 : Int) * (H0 : Int)) = (N : Int) := by rw [show (W0 : Int) * (H0 : Int) = (N : Int) by rw [← hN, Int.natCast_mul], wrap_nat4_ hN25]
  have HN0 := Aside0.mk (show (0 : Int) ≤ wrap64 ((W0 : Int) * (H0 : Int)) by rw [hwn]; exact Int.natCast_nonneg N)
  have HN8 := Aside0.mk (show (wrap64 ((W0 : Int) * (H0 : Int))).toNat * 1 ≤ 281474976710656 by rw [hwn, Int.toNat_natCast]; clear hwn; omega)
  have HNe := Aside0.mk (show (wrap64 ((W0 : Int) * (H0 : Int))).toNat = N by rw [hwn, Int.toNat_natCast])
  have hu28 := Try.underlying28
  have hu93 := Try.underlying93
  clear hr0_2 hc0_2 hr1 hc1 hs hsb hTl hw1 hw5 hh1 hh5 hs1 hs3 hN hN25 hwn
  go_enter Try.func94, Try.ntmps94
  go_wp2_with (first | ((with_reducible refine gate_dst (N := 2) rfl ?_); refine box_event ?hg (N := 2) ?hd (cs := #[.int .i64 (W0 : Int), .int .i64 (H0 : Int), .slice A2 ships.length c2]) (t := 28) ?hr ?_; (case hd => rfl); (case hg => rfl); (case hr => first | (go_simp; done) | (go_simp; rfl)); intro g2 hg2 w1 hbox hb; have H2 := Aside0.mk hbox; have HB := Aside0.mk hb; clear hbox hb hg2; have s0_ := (blk_cell H2.out 0).trans rfl; have s1_ := (blk_cell H2.out 1).trans rfl) | ((with_reducible refine gate_dst (N := 13) rfl ?_); refine Kd.R_make Kd.bool _ 4 rfl (N := 13) rfl 101 _ _ rfl (wrap64 ((W0 : Int) * (H0 : Int))) rfl rfl Try.underlying101 (.bool false) 1 info4 rfl (by decide) (by omega) false (ok := fun _ => True) (okp := fun _ => True) rfl (fun _ hk => hk) trivial HN0.out HN8.out (Below.refl _ _) (Nat.le_refl _) ?_; intro v13 w2 ho hb hg_ hnew_; clear hg_ hnew_; rw [HNe.out, ← openTo_zero] at ho; obtain ⟨go, co, e13, hgo_, _, _⟩ := Kd.R_form ho (by rw [openTo_len]; exact HNp.out); rw [openTo_len] at e13; subst e13; have HZO := Aside0.mk (show w.heap.size ≤ go by have := below_size HB.out; omega); have HO := Aside0.mk (Kd.R_mono (ok' := fun k => k = go) (Kd.R_tight rfl (Kd.R_lower ho (below_size HB.out))) (fun k hk => by injection hk)); clear ho hgo_; (try clear s0_); (try clear s1_); have n_ := Aside0.mk (below_step HB.out hb); clear hb HB H2; have HB := n_; clear n_))
  go_loopg [16] N (fun gg s16 wr => ∃ j : Nat, j ≤ N ∧ N - j ≤ gg ∧ s16 = .int .i64 j ∧ Aside0 (Kd.R Kd.bool 4 wr w.heap.size (fun k => k = go) (.slice (some ⟨go, 0, none⟩) N co) (openTo N j)) ∧ Aside0 (Below w.heap.size w wr))
  case atStart => exact ⟨0, Nat.zero_le _, Nat.le_refl _, rfl, HO, HB⟩
  case round =>
    clear HO HB
    obtain ⟨j, hj, hgj, rfl, HO, HB⟩ := hrel
    by_cases hlt : j < N
    · obtain ⟨cells_, hrb⟩ := bool_blk_ HO.out (by rw [openTo_len]; exact HNp.out)
      have hfR := blk_frozen hrb j
      obtain ⟨ado, eo, hxo⟩ := Kd.at_bool (Kd.R_reads' HO.out).2.2 (j : Int) (by omega) (by rw [openTo_len]; omega)
      injection eo with eo
      subst eo
      rw [Int.toNat_natCast, add_at, Nat.zero_add] at hxo
      have HSv := Aside0.mk (openTo_set hlt)
      have q1 := decide_eq_true (show (j : Int) < (N : Int) by omega)
      have q2 := decide_eq_true hlt
      have q3 := eq_true (show (j : Int) < (N : Int) by omega)
      have q4 := eq_true (show (0 : Int) ≤ (j : Int) by omega)
      have q5 := eq_true hlt
      have HJm := Aside0.mk (show N - (j + 1) < gk by omega)
      have HJr := Aside0.mk (show j + 1 ≤ N by omega)
      have HJs := Aside0.mk (show wrap64 ((j : Int) + 1) = ((j + 1 : Nat) : Int) from wrap_one (a := j) (by have := HN25.out; omega))
      clear hrb hj hgj hlt
      go_wp2_with fail
      go_roundg (N - (j + 1))
      case measure => exact HJm.out
      case rel => exact ⟨j + 1, HJr.out, Nat.le_refl _, (by first | rfl | exact congrArg (Value.int .i64) HJs.out), ⟨by have vO_ := Kd.R_putn HO.out (j : Int) true; rw [Int.toNat_natCast, HSv.out] at vO_; exact vO_⟩, ⟨below_set HB.out HZO.out⟩⟩
    · have hje : j = N := by omega
      subst hje
      have q1 := decide_eq_false (show ¬ (j : Int) < (j : Int) by omega)
      have HO2 := Aside0.mk (show Kd.R Kd.bool 4 wr w.heap.size (fun k => k = go) (.slice (some ⟨go, 0, none⟩) j co) (openB j (T.take 0)) by rw [List.take_zero, ← openTo_all]; exact HO.out)
      clear HO
      go_wp2_with fail
      go_loopg [7] T.length (fun gg s7 wr => ∃ i : Nat, i ≤ T.length ∧ T.length - i ≤ gg ∧ s7 = .int .i64 i ∧ Aside0 (Kd.R Kd.bool 4 wr w.heap.size (fun k => k = go) (.slice (some ⟨go, 0, none⟩) j co) (openB j (T.take i))) ∧ Aside0 (Below w.heap.size w wr))
      case atStart => exact ⟨0, Nat.zero_le _, Nat.le_refl _, rfl, HO2, HB⟩
      case round =>
        clear HO2 HB q1
        obtain ⟨i, hi, hgi, rfl, HO, HB⟩ := hrel
        by_cases hlt : i < T.length
        · obtain ⟨adT, rfl, hc1, hc2⟩ := at_T93 (Kd.C_below HT.out HB.out) (i : Int) (by omega) (by omega)
          rw [rd93_get T i hlt, Int.toNat_natCast] at hc1 hc2
          have hin := HIn.out i hlt
          have hset := openB_set (N := j) (T.take i) T[i] (c := T[i].f0.toNat) (by omega)
          rw [← List.take_succ_eq_append_getElem hlt] at hset
          generalize T[i] = x at hc1 hc2 hin hset
          obtain ⟨c, hc⟩ : ∃ c : Nat, x.f0 = (c : Int) := ⟨x.f0.toNat, by omega⟩
          rw [hc] at hc1 hin hset
          rw [Int.toNat_natCast] at hset
          obtain ⟨cells_, hrb⟩ := bool_blk_ HO.out (by rw [openB_len]; exact HNp.out)
          have hfR := blk_frozen hrb c
          obtain ⟨ado, eo, hxo⟩ := Kd.at_bool (Kd.R_reads' HO.out).2.2 (c : Int) hin.1 (by rw [openB_len]; exact hin.2)
          injection eo with eo
          subst eo
          rw [Int.toNat_natCast, add_at, Nat.zero_add] at hxo
          have HSv := Aside0.mk hset
          have q1 := decide_eq_true (show (i : Int) < (T.length : Int) by omega)
          have q2 := decide_eq_true hlt
          have q3 := eq_true (show (i : Int) < (T.length : Int) by omega)
          have q4 := eq_true (show (0 : Int) ≤ (i : Int) by omega)
          have q5 := eq_true hlt
          have p6 := eq_true hin.1
          have p7 := eq_true hin.2
          have p8 := eq_true (show c < j by omega)
          have HJm := Aside0.mk (show T.length - (i + 1) < gk by omega)
          have HJr := Aside0.mk (show i + 1 ≤ T.length by omega)
          have HJs := Aside0.mk (show wrap64 ((i : Int) + 1) = ((i + 1 : Nat) : Int) from wrap_nat1 hlt HTl.out)
          clear hrb hi hgi hlt hin hset hc
          go_wp2_with fail
          go_roundg (T.length - (i + 1))
          case measure => exact HJm.out
          case rel => exact ⟨i + 1, HJr.out, Nat.le_refl _, (by first | rfl | exact congrArg (Value.int .i64) HJs.out), ⟨by have vO_ := Kd.R_putn HO.out (c : Int) false; rw [Int.toNat_natCast, HSv.out] at vO_; exact vO_⟩, ⟨below_set HB.out HZO.out⟩⟩
        · have hie : i = T.length := by omega
          subst hie
          have q1 := decide_eq_false (show ¬ (T.length : Int) < (T.length : Int) by omega)
          go_wp2_with fail
          go_ret
          exact ⟨_, rfl, Kd.R_mono (by have := HO.out; rw [List.take_length] at this; exact this) (fun _ _ => trivial), HB.out⟩
/-! ### spec_l09Best: function 92 -/
mutual
def spec_l09Best.l0 : Nat → List Int → Int → List Bool → Int → Int → Option (Int)
 | 0, _, _, _, _, _ => none
 | k + 1, x5, x6, x7, x8, x9 => if x9 < (x7.length : Int) then (spec_l09Best.j1 k x5 x6 x7 x8 x9 (decide (x6 > 0))) else (spec_l09Best.j1 k x5 x6 x7 x8 x9 false)
def spec_l09Best.j1 : Nat → List Int → Int → List Bool → Int → Int → Bool → Option (Int)
 | 0, _, _, _, _, _, _ => none
 | k + 1, x5, x6, x7, x8, x9, x26 => if x26 = true then (if 0 ≤ x9 then (if x9 < (x7.length : Int) then (if rdOf false x7 x9 = true then (if x8 < 0 then (spec_l09Best.l0 k x5 x6 x7 x9 (wrap64 (x9 + 1))) else (if x9 < (x5.length : Int) then (if 0 ≤ x8 then (if x8 < (x5.length : Int) then (if (rd x5 x9) > (rd x5 x8) then (spec_l09Best.l0 k x5 x6 x7 x9 (wrap64 (x9 + 1))) else (spec_l09Best.l0 k x5 x6 x7 x8 (wrap64 (x9 + 1)))) else (none)) else (none)) else (none))) else (spec_l09Best.l0 k x5 x6 x7 x8 (wrap64 (x9 + 1)))) else (none)) else (none)) else (some x8)
end
def spec_l09Best.f (k : Nat) (a0_0 : Int) (a0_1 : Int) (l0_2 : List Int) (l1 : List (S93)) : Option (Int) := (spec_l09Shares.f a0_0 a0_1 l0_2 l1).bind fun bt958 => ((spec_l09Open.f a0_0 a0_1 l0_2 l1).bind fun t962 => (spec_l09Best.l0 k bt958.1 bt958.2 t962 (-1) 0))
set_option maxHeartbeats 8000000 in
set_option maxRecDepth 100000 in
theorem spec_l09Best.calls (k : Nat) (a0_0 : Int) (a0_1 : Int) (A0_2 : Option Addr) (c0_2 : Nat) (l0_2 : List Int) (A1 : Option Addr) (c1 : Nat) (l1 : List (S93)) (r : Int) (w : World) (hr0_2 : Kd.C (Kd.int .i64) w A0_2 l0_2.length l0_2) (hc0_2 : l0_2.length ≤ c0_2) (hr1 : Kd.C k93 w A1 l1.length l1) (hc1 : l1.length ≤ c1) (h : spec_l09Best.f k a0_0 a0_1 l0_2 l1 = some r) :
  Calls Try.prog 92 #[.agg #[.int .i64 a0_0, .int .i64 a0_1, .slice A0_2 l0_2.length c0_2], .slice A1 l1.length c1] w fun e w' => e = .returned (.int .i64 r) ∧ Below w.heap.size w w' := by
 have hu28 := Try.underlying28
 have HR0_2 := Aside0.mk hr0_2
 have HC0_2 := Aside0.mk hc0_2
 clear hr0_2 hc0_2
 have HR1 := Aside0.mk hr1
 have HC1 := Aside0.mk hc1
 clear hr1 hc1
 have HB := Aside0.mk (Below.refl w.heap.size w)
 have H : ((spec_l09Shares.f a0_0 a0_1 l0_2 l1).bind fun bt958 => ((spec_l09Open.f a0_0 a0_1 l0_2 l1).bind fun t962 => (spec_l09Best.l0 k bt958.1 bt958.2 t962 (-1) 0))) = some r := h
 clear h
 replace H := Option.bind_eq_some_iff.mp H
 obtain ⟨⟨t958, t961⟩, A30, H⟩ := H
 replace H : ((spec_l09Open.f a0_0 a0_1 l0_2 l1).bind fun t962 => (spec_l09Best.l0 k t958 t961 t962 (-1) 0)) = some r := H
 have A3 := Aside0.mk A30
 clear A30
 replace H := Option.bind_eq_some_iff.mp H
 obtain ⟨t962, A40, H⟩ := H
 replace H : (spec_l09Best.l0 k t958 t961 t962 (-1) 0) = some r := H
 have A4 := Aside0.mk A40
 clear A40
 have H' := Aside0.mk H
 clear H
 go_enter Try.func92, Try.ntmps92
 go_wp2_with (first | ((with_reducible refine gate_dst (N := 2) rfl ?_); refine box_event ?hg (N := 2) ?hd (cs := #[.int .i64 a0_0, .int .i64 a0_1, .slice A0_2 l0_2.length c0_2]) (t := 28) ?hr ?_; (case hd => rfl); (case hg => rfl); (case hr => first | (go_simp; done) | (go_simp; rfl)); intro gb957 hg w5 hbox hb; have n0_ := Aside0.mk (below_step hb_ hb); have n1_ := Aside0.mk (hbox); have n2_ := Aside0.mk ((by rw [hg]; exact (below_size hb_) : w.heap.size ≤ gb957)); have n3_ := Aside0.mk ((by rw [hg]; exact (below_size hb_) : w.heap.size ≤ gb957)); clear HB; have HB := n0_; have BK957 := n1_; have GW957 := n2_; have GE957 := n3_; clear n0_ n1_ n2_ n3_; clear hb hbox hg; have hcz6_0 : w5.cell? ⟨gb957, 0, none⟩ = some (.int .i64 a0_0) := (blk_cell BK957.out 0).trans rfl; have hcz6_1 : w5.cell? ⟨gb957, 1, none⟩ = some (.int .i64 a0_1) := (blk_cell BK957.out 1).trans rfl; have hcz6_2 : w5.cell? ⟨gb957, 2, none⟩ = some (.slice A0_2 l0_2.length c0_2) := (blk_cell BK957.out 2).trans rfl; have hfz6_0 := blk_frozen BK957.out 0; have hfz6_1 := blk_frozen BK957.out 1; have hfz6_2 := blk_frozen BK957.out 2) | (go_at_call 91; (with_reducible refine (spec_l09Shares.calls a0_0 a0_1 _ _ l0_2 _ _ l1 t958 t961 _ ?side1 ?side2 ?side3 ?side4 A3.out).mono ?_); (case side1 => repeat (first | exact (Kd.C_below HR0_2.out HB.out) | (with_reducible refine Kd.C_alloc ?_ _) | (with_reducible refine Kd.C_drewN ?_ _) | (with_reducible refine Kd.C_drew ?_))); (case side2 => exact HC0_2.out); (case side3 => repeat (first | exact (Kd.C_below HR1.out HB.out) | (with_reducible refine Kd.C_alloc ?_ _) | (with_reducible refine Kd.C_drewN ?_ _) | (with_reducible refine Kd.C_drew ?_))); (case side4 => exact HC1.out); rintro e w7 ⟨v959, rfl, ho0, hb⟩; have n0_ := Aside0.mk (Kd.R_lower ho0 (below_size (by repeat (first | (with_reducible first | exact HB.out | apply below_alloc | apply pw_below_drewN | apply below_drew1 | refine below_set ?_ GE957.out) | exact HB.out)))); have n1_ := Aside0.mk (blk_below (g := gb957) (o := .cells #[.int .i64 a0_0, .int .i64 a0_1, .slice A0_2 l0_2.length c0_2] 28 (0, 0)) (by (with_reducible repeat (first | refine blk_drewN ?_ _ | refine blk_drew ?_ | refine blk_alloc ?_ _)); exact BK957.out) hb); have n2_ := Aside0.mk (below_step (by repeat (first | (with_reducible first | exact HB.out | apply below_alloc | apply pw_below_drewN | apply below_drew1 | refine below_set ?_ GE957.out) | exact HB.out)) hb); clear BK957; clear HB; have HO960 := n0_; have BK957 := n1_; have HB := n2_; clear n0_ n1_ n2_; (try clear hb); (try clear hb2); (try clear hk); (try clear hi); (try clear ho0); have hcz8_0 : w7.cell? ⟨gb957, 0, none⟩ = some (.int .i64 a0_0) := (blk_cell BK957.out 0).trans rfl; have hcz8_1 : w7.cell? ⟨gb957, 1, none⟩ = some (.int .i64 a0_1) := (blk_cell BK957.out 1).trans rfl; have hcz8_2 : w7.cell? ⟨gb957, 2, none⟩ = some (.slice A0_2 l0_2.length c0_2) := (blk_cell BK957.out 2).trans rfl; have hfz8_0 := blk_frozen BK957.out 0; have hfz8_1 := blk_frozen BK957.out 1; have hfz8_2 := blk_frozen BK957.out 2) | (go_at_call 94; (with_reducible refine (spec_l09Open.calls a0_0 a0_1 _ _ l0_2 _ _ l1 t962 _ ?side1 ?side2 ?side3 ?side4 A4.out).mono ?_); (case side1 => repeat (first | exact (Kd.C_below HR0_2.out HB.out) | (with_reducible refine Kd.C_alloc ?_ _) | (with_reducible refine Kd.C_drewN ?_ _) | (with_reducible refine Kd.C_drew ?_))); (case side2 => exact HC0_2.out); (case side3 => repeat (first | exact (Kd.C_below HR1.out HB.out) | (with_reducible refine Kd.C_alloc ?_ _) | (with_reducible refine Kd.C_drewN ?_ _) | (with_reducible refine Kd.C_drew ?_))); (case side4 => exact HC1.out); rintro e w9 ⟨v963, rfl, ho0, hb⟩; have n0_ := Aside0.mk (Kd.R_below (by (with_reducible repeat (first | apply Kd.R_alloc | apply Kd.R_drewN | apply Kd.R_drew)); exact HO960.out) hb); have n1_ := Aside0.mk (Kd.R_lower ho0 (below_size (by repeat (first | (with_reducible first | exact HB.out | apply below_alloc | apply pw_below_drewN | apply below_drew1 | refine below_set ?_ GE957.out) | exact HB.out)))); have n2_ := Aside0.mk (blk_below (g := gb957) (o := .cells #[.int .i64 a0_0, .int .i64 a0_1, .slice A0_2 l0_2.length c0_2] 28 (0, 0)) (by (with_reducible repeat (first | refine blk_drewN ?_ _ | refine blk_drew ?_ | refine blk_alloc ?_ _)); exact BK957.out) hb); have n3_ := Aside0.mk (below_step (by repeat (first | (with_reducible first | exact HB.out | apply below_alloc | apply pw_below_drewN | apply below_drew1 | refine below_set ?_ GE957.out) | exact HB.out)) hb); clear HO960; clear BK957; clear HB; have HO960 := n0_; have HO964 := n1_; have BK957 := n2_; have HB := n3_; clear n0_ n1_ n2_ n3_; (try clear hb); (try clear hb2); (try clear hk); (try clear hi); (try clear ho0)))
 repeat (go_quiet (first | ((with_reducible refine gate_dst (N := 2) rfl ?_); refine box_event ?hg (N := 2) ?hd (cs := #[.int .i64 a0_0, .int .i64 a0_1, .slice A0_2 l0_2.length c0_2]) (t := 28) ?hr ?_; (case hd => rfl); (case hg => rfl); (case hr => first | (go_simp; done) | (go_simp; rfl)); intro gb957 hg w5 hbox hb; have n0_ := Aside0.mk (below_step hb_ hb); have n1_ := Aside0.mk (hbox); have n2_ := Aside0.mk ((by rw [hg]; exact (below_size hb_) : w.heap.size ≤ gb957)); have n3_ := Aside0.mk ((by rw [hg]; exact (below_size hb_) : w.heap.size ≤ gb957)); clear HB; have HB := n0_; have BK957 := n1_; have GW957 := n2_; have GE957 := n3_; clear n0_ n1_ n2_ n3_; clear hb hbox hg; have hcz6_0 : w5.cell? ⟨gb957, 0, none⟩ = some (.int .i64 a0_0) := (blk_cell BK957.out 0).trans rfl; have hcz6_1 : w5.cell? ⟨gb957, 1, none⟩ = some (.int .i64 a0_1) := (blk_cell BK957.out 1).trans rfl; have hcz6_2 : w5.cell? ⟨gb957, 2, none⟩ = some (.slice A0_2 l0_2.length c0_2) := (blk_cell BK957.out 2).trans rfl; have hfz6_0 := blk_frozen BK957.out 0; have hfz6_1 := blk_frozen BK957.out 1; have hfz6_2 := blk_frozen BK957.out 2) | (go_at_call 91; (with_reducible refine (spec_l09Shares.calls a0_0 a0_1 _ _ l0_2 _ _ l1 t958 t961 _ ?side1 ?side2 ?side3 ?side4 A3.out).mono ?_); (case side1 => repeat (first | exact (Kd.C_below HR0_2.out HB.out) | (with_reducible refine Kd.C_alloc ?_ _) | (with_reducible refine Kd.C_drewN ?_ _) | (with_reducible refine Kd.C_drew ?_))); (case side2 => exact HC0_2.out); (case side3 => repeat (first | exact (Kd.C_below HR1.out HB.out) | (with_reducible refine Kd.C_alloc ?_ _) | (with_reducible refine Kd.C_drewN ?_ _) | (with_reducible refine Kd.C_drew ?_))); (case side4 => exact HC1.out); rintro e w7 ⟨v959, rfl, ho0, hb⟩; have n0_ := Aside0.mk (Kd.R_lower ho0 (below_size (by repeat (first | (with_reducible first | exact HB.out | apply below_alloc | apply pw_below_drewN | apply below_drew1 | refine below_set ?_ GE957.out) | exact HB.out)))); have n1_ := Aside0.mk (blk_below (g := gb957) (o := .cells #[.int .i64 a0_0, .int .i64 a0_1, .slice A0_2 l0_2.length c0_2] 28 (0, 0)) (by (with_reducible repeat (first | refine blk_drewN ?_ _ | refine blk_drew ?_ | refine blk_alloc ?_ _)); exact BK957.out) hb); have n2_ := Aside0.mk (below_step (by repeat (first | (with_reducible first | exact HB.out | apply below_alloc | apply pw_below_drewN | apply below_drew1 | refine below_set ?_ GE957.out) | exact HB.out)) hb); clear BK957; clear HB; have HO960 := n0_; have BK957 := n1_; have HB := n2_; clear n0_ n1_ n2_; (try clear hb); (try clear hb2); (try clear hk); (try clear hi); (try clear ho0); have hcz8_0 : w7.cell? ⟨gb957, 0, none⟩ = some (.int .i64 a0_0) := (blk_cell BK957.out 0).trans rfl; have hcz8_1 : w7.cell? ⟨gb957, 1, none⟩ = some (.int .i64 a0_1) := (blk_cell BK957.out 1).trans rfl; have hcz8_2 : w7.cell? ⟨gb957, 2, none⟩ = some (.slice A0_2 l0_2.length c0_2) := (blk_cell BK957.out 2).trans rfl; have hfz8_0 := blk_frozen BK957.out 0; have hfz8_1 := blk_frozen BK957.out 1; have hfz8_2 := blk_frozen BK957.out 2) | (go_at_call 94; (with_reducible refine (spec_l09Open.calls a0_0 a0_1 _ _ l0_2 _ _ l1 t962 _ ?side1 ?side2 ?side3 ?side4 A4.out).mono ?_); (case side1 => repeat (first | exact (Kd.C_below HR0_2.out HB.out) | (with_reducible refine Kd.C_alloc ?_ _) | (with_reducible refine Kd.C_drewN ?_ _) | (with_reducible refine Kd.C_drew ?_))); (case side2 => exact HC0_2.out); (case side3 => repeat (first | exact (Kd.C_below HR1.out HB.out) | (with_reducible refine Kd.C_alloc ?_ _) | (with_reducible refine Kd.C_drewN ?_ _) | (with_reducible refine Kd.C_drew ?_))); (case side4 => exact HC1.out); rintro e w9 ⟨v963, rfl, ho0, hb⟩; have n0_ := Aside0.mk (Kd.R_below (by (with_reducible repeat (first | apply Kd.R_alloc | apply Kd.R_drewN | apply Kd.R_drew)); exact HO960.out) hb); have n1_ := Aside0.mk (Kd.R_lower ho0 (below_size (by repeat (first | (with_reducible first | exact HB.out | apply below_alloc | apply pw_below_drewN | apply below_drew1 | refine below_set ?_ GE957.out) | exact HB.out)))); have n2_ := Aside0.mk (blk_below (g := gb957) (o := .cells #[.int .i64 a0_0, .int .i64 a0_1, .slice A0_2 l0_2.length c0_2] 28 (0, 0)) (by (with_reducible repeat (first | refine blk_drewN ?_ _ | refine blk_drew ?_ | refine blk_alloc ?_ _)); exact BK957.out) hb); have n3_ := Aside0.mk (below_step (by repeat (first | (with_reducible first | exact HB.out | apply below_alloc | apply pw_below_drewN | apply below_drew1 | refine below_set ?_ GE957.out) | exact HB.out)) hb); clear HO960; clear BK957; clear HB; have HO960 := n0_; have HO964 := n1_; have BK957 := n2_; have HB := n3_; clear n0_ n1_ n2_ n3_; (try clear hb); (try clear hb2); (try clear hk); (try clear hi); (try clear ho0))); try go_wp2_with (first | ((with_reducible refine gate_dst (N := 2) rfl ?_); refine box_event ?hg (N := 2) ?hd (cs := #[.int .i64 a0_0, .int .i64 a0_1, .slice A0_2 l0_2.length c0_2]) (t := 28) ?hr ?_; (case hd => rfl); (case hg => rfl); (case hr => first | (go_simp; done) | (go_simp; rfl)); intro gb957 hg w5 hbox hb; have n0_ := Aside0.mk (below_step hb_ hb); have n1_ := Aside0.mk (hbox); have n2_ := Aside0.mk ((by rw [hg]; exact (below_size hb_) : w.heap.size ≤ gb957)); have n3_ := Aside0.mk ((by rw [hg]; exact (below_size hb_) : w.heap.size ≤ gb957)); clear HB; have HB := n0_; have BK957 := n1_; have GW957 := n2_; have GE957 := n3_; clear n0_ n1_ n2_ n3_; clear hb hbox hg; have hcz6_0 : w5.cell? ⟨gb957, 0, none⟩ = some (.int .i64 a0_0) := (blk_cell BK957.out 0).trans rfl; have hcz6_1 : w5.cell? ⟨gb957, 1, none⟩ = some (.int .i64 a0_1) := (blk_cell BK957.out 1).trans rfl; have hcz6_2 : w5.cell? ⟨gb957, 2, none⟩ = some (.slice A0_2 l0_2.length c0_2) := (blk_cell BK957.out 2).trans rfl; have hfz6_0 := blk_frozen BK957.out 0; have hfz6_1 := blk_frozen BK957.out 1; have hfz6_2 := blk_frozen BK957.out 2) | (go_at_call 91; (with_reducible refine (spec_l09Shares.calls a0_0 a0_1 _ _ l0_2 _ _ l1 t958 t961 _ ?side1 ?side2 ?side3 ?side4 A3.out).mono ?_); (case side1 => repeat (first | exact (Kd.C_below HR0_2.out HB.out) | (with_reducible refine Kd.C_alloc ?_ _) | (with_reducible refine Kd.C_drewN ?_ _) | (with_reducible refine Kd.C_drew ?_))); (case side2 => exact HC0_2.out); (case side3 => repeat (first | exact (Kd.C_below HR1.out HB.out) | (with_reducible refine Kd.C_alloc ?_ _) | (with_reducible refine Kd.C_drewN ?_ _) | (with_reducible refine Kd.C_drew ?_))); (case side4 => exact HC1.out); rintro e w7 ⟨v959, rfl, ho0, hb⟩; have n0_ := Aside0.mk (Kd.R_lower ho0 (below_size (by repeat (first | (with_reducible first | exact HB.out | apply below_alloc | apply pw_below_drewN | apply below_drew1 | refine below_set ?_ GE957.out) | exact HB.out)))); have n1_ := Aside0.mk (blk_below (g := gb957) (o := .cells #[.int .i64 a0_0, .int .i64 a0_1, .slice A0_2 l0_2.length c0_2] 28 (0, 0)) (by (with_reducible repeat (first | refine blk_drewN ?_ _ | refine blk_drew ?_ | refine blk_alloc ?_ _)); exact BK957.out) hb); have n2_ := Aside0.mk (below_step (by repeat (first | (with_reducible first | exact HB.out | apply below_alloc | apply pw_below_drewN | apply below_drew1 | refine below_set ?_ GE957.out) | exact HB.out)) hb); clear BK957; clear HB; have HO960 := n0_; have BK957 := n1_; have HB := n2_; clear n0_ n1_ n2_; (try clear hb); (try clear hb2); (try clear hk); (try clear hi); (try clear ho0); have hcz8_0 : w7.cell? ⟨gb957, 0, none⟩ = some (.int .i64 a0_0) := (blk_cell BK957.out 0).trans rfl; have hcz8_1 : w7.cell? ⟨gb957, 1, none⟩ = some (.int .i64 a0_1) := (blk_cell BK957.out 1).trans rfl; have hcz8_2 : w7.cell? ⟨gb957, 2, none⟩ = some (.slice A0_2 l0_2.length c0_2) := (blk_cell BK957.out 2).trans rfl; have hfz8_0 := blk_frozen BK957.out 0; have hfz8_1 := blk_frozen BK957.out 1; have hfz8_2 := blk_frozen BK957.out 2) | (go_at_call 94; (with_reducible refine (spec_l09Open.calls a0_0 a0_1 _ _ l0_2 _ _ l1 t962 _ ?side1 ?side2 ?side3 ?side4 A4.out).mono ?_); (case side1 => repeat (first | exact (Kd.C_below HR0_2.out HB.out) | (with_reducible refine Kd.C_alloc ?_ _) | (with_reducible refine Kd.C_drewN ?_ _) | (with_reducible refine Kd.C_drew ?_))); (case side2 => exact HC0_2.out); (case side3 => repeat (first | exact (Kd.C_below HR1.out HB.out) | (with_reducible refine Kd.C_alloc ?_ _) | (with_reducible refine Kd.C_drewN ?_ _) | (with_reducible refine Kd.C_drew ?_))); (case side4 => exact HC1.out); rintro e w9 ⟨v963, rfl, ho0, hb⟩; have n0_ := Aside0.mk (Kd.R_below (by (with_reducible repeat (first | apply Kd.R_alloc | apply Kd.R_drewN | apply Kd.R_drew)); exact HO960.out) hb); have n1_ := Aside0.mk (Kd.R_lower ho0 (below_size (by repeat (first | (with_reducible first | exact HB.out | apply below_alloc | apply pw_below_drewN | apply below_drew1 | refine below_set ?_ GE957.out) | exact HB.out)))); have n2_ := Aside0.mk (blk_below (g := gb957) (o := .cells #[.int .i64 a0_0, .int .i64 a0_1, .slice A0_2 l0_2.length c0_2] 28 (0, 0)) (by (with_reducible repeat (first | refine blk_drewN ?_ _ | refine blk_drew ?_ | refine blk_alloc ?_ _)); exact BK957.out) hb); have n3_ := Aside0.mk (below_step (by repeat (first | (with_reducible first | exact HB.out | apply below_alloc | apply pw_below_drewN | apply below_drew1 | refine below_set ?_ GE957.out) | exact HB.out)) hb); clear HO960; clear BK957; clear HB; have HO960 := n0_; have HO964 := n1_; have BK957 := n2_; have HB := n3_; clear n0_ n1_ n2_ n3_; (try clear hb); (try clear hb2); (try clear hk); (try clear hi); (try clear ho0))))
 go_loopg [8, 9] k (fun kq v8 v9 w' => ∃ (x8_1 : Int) (x9_1 : Int), v8 = .int .i64 x8_1 ∧ v9 = .int .i64 x9_1 ∧ Aside0 (spec_l09Best.l0 kq t958 t961 t962 x8_1 x9_1 = some r) ∧ Aside0 (kq ≤ k) ∧ Aside0 (Kd.R (Kd.int .i64) 2 w' w.heap.size (fun _ => True) v959 t958) ∧ Aside0 (Kd.R Kd.bool 4 w' w.heap.size (fun _ => True) v963 t962) ∧ Aside0 (w'.heap[gb957]? = some (.cells #[.int .i64 a0_0, .int .i64 a0_1, (.slice A0_2 l0_2.length c0_2)] 28 (0, 0))) ∧ Aside0 (Below w.heap.size w w'))
 case atStart => exact ⟨((-1)), (0), (by first | rfl | (simp; done) | (simp [*]; done)), (by first | rfl | (simp; done) | (simp [*]; done)), H', ⟨Nat.le_refl _⟩, ⟨by (with_reducible repeat (first | apply Kd.R_alloc | apply Kd.R_drewN | apply Kd.R_drew)); exact HO960.out⟩, ⟨by (with_reducible repeat (first | apply Kd.R_alloc | apply Kd.R_drewN | apply Kd.R_drew)); exact HO964.out⟩, ⟨by (with_reducible repeat (first | refine blk_drewN ?_ _ | refine blk_drew ?_ | refine blk_alloc ?_ _)); exact BK957.out⟩, ⟨by repeat (first | (with_reducible first | exact HB.out | apply below_alloc | apply pw_below_drewN | apply below_drew1 | refine below_set ?_ GE957.out) | exact HB.out)⟩⟩
 case round =>
  clear H'
  (try clear c1); (try clear p2); (try clear c9); (try clear hcz6_0); (try clear hcz6_1); (try clear hcz6_2); (try clear hcz8_0); (try clear hcz8_1); (try clear hcz8_2); (try clear hfz6_0); (try clear hfz6_1); (try clear hfz6_2); (try clear hfz8_0); (try clear hfz8_1); (try clear hfz8_2)
  obtain ⟨x8_1, x9_1, rfl, rfl, HA, HK1, HO_5, HO_7, BK957, HB⟩ := hrel
  cases gk with
  | zero => exact absurd HA.out (by simp [spec_l09Best.l0])
  | succ k1 =>
   have H := HA.out
   clear HA
   simp only [spec_l09Best.l0] at H
   have HC10 := Aside0.mk H
   clear H
   go_upto_region 4 with (fail)
   repeat (go_quiet (fail); go_upto_region 4 with (fail))
   go_cut [26] (fun v26 wc => ∃ (kq : Nat) (x26_9 : Bool), v26 = .bool x26_9 ∧ Aside0 (spec_l09Best.j1 kq t958 t961 t962 x8_1 x9_1 x26_9 = some r) ∧ Aside0 (kq ≤ k1) ∧ Aside0 (Kd.R (Kd.int .i64) 2 wc w.heap.size (fun _ => True) v959 t958) ∧ Aside0 (Kd.R Kd.bool 4 wc w.heap.size (fun _ => True) v963 t962) ∧ Aside0 (wc.heap[gb957]? = some (.cells #[.int .i64 a0_0, .int .i64 a0_1, (.slice A0_2 l0_2.length c0_2)] 28 (0, 0))) ∧ Aside0 (Below w.heap.size w wc))
   case first =>
    have H := HC10.out
    clear HC10
    by_cases c11 : x9_1 < (t962.length : Int)
    ·rw [if_pos c11] at H
     have c11b0 : decide (x9_1 < (t962.length : Int)) = true := decide_eq_true c11
     clear c11
     (first | rw [c11b0] | (simp only [i64_w, i32_w]; rw [c11b0]) | skip)
     have H' := Aside0.mk H
     clear H
     obtain ⟨Ao12, co12, eo12⟩ := Kd.R_slice HO_7.out
     subst eo12
     go_wp2
     repeat (go_quiet (fail); try go_wp2)
     go_meet
     case rel => exact ⟨_, (decide (t961 > 0)), (by first | rfl | (simp; done) | (simp [*]; done)), H', ⟨by have := HK1.out; first | omega | exact Nat.le_refl _⟩, ⟨by (with_reducible repeat (first | apply Kd.R_alloc | apply Kd.R_drewN | apply Kd.R_drew)); exact HO_5.out⟩, ⟨by (with_reducible repeat (first | apply Kd.R_alloc | apply Kd.R_drewN | apply Kd.R_drew)); exact HO_7.out⟩, ⟨by (with_reducible repeat (first | refine blk_drewN ?_ _ | refine blk_drew ?_ | refine blk_alloc ?_ _)); exact BK957.out⟩, ⟨by repeat (first | (with_reducible first | exact HB.out | apply below_alloc | apply pw_below_drewN | apply below_drew1 | refine below_set ?_ GE957.out) | exact HB.out)⟩⟩
    ·rw [if_neg c11] at H
     have c11b0 : decide (x9_1 < (t962.length : Int)) = false := decide_eq_false c11
     clear c11
     (first | rw [c11b0] | (simp only [i64_w, i32_w]; rw [c11b0]) | skip)
     have H' := Aside0.mk H
     clear H
     obtain ⟨Ao13, co13, eo13⟩ := Kd.R_slice HO_7.out
     subst eo13
     go_wp2
     repeat (go_quiet (fail); try go_wp2)
     go_meet
     case rel => exact ⟨_, (false), (by first | rfl | (simp; done) | (simp [*]; done)), H', ⟨by have := HK1.out; first | omega | exact Nat.le_refl _⟩, ⟨by (with_reducible repeat (first | apply Kd.R_alloc | apply Kd.R_drewN | apply Kd.R_drew)); exact HO_5.out⟩, ⟨by (with_reducible repeat (first | apply Kd.R_alloc | apply Kd.R_drewN | apply Kd.R_drew)); exact HO_7.out⟩, ⟨by (with_reducible repeat (first | refine blk_drewN ?_ _ | refine blk_drew ?_ | refine blk_alloc ?_ _)); exact BK957.out⟩, ⟨by repeat (first | (with_reducible first | exact HB.out | apply below_alloc | apply pw_below_drewN | apply below_drew1 | refine below_set ?_ GE957.out) | exact HB.out)⟩⟩
   case rest =>
    clear HC10
    (try clear c1); (try clear p2); (try clear c9); (try clear c11); (try clear c11b0); (try clear hcz6_0); (try clear hcz6_1); (try clear hcz6_2); (try clear hcz8_0); (try clear hcz8_1); (try clear hcz8_2); (try clear hfz6_0); (try clear hfz6_1); (try clear hfz6_2); (try clear hfz8_0); (try clear hfz8_1); (try clear hfz8_2); (try clear p2)
    obtain ⟨kq, x26_9, rfl, HA, HJ9, HO_5, HO_7, BK957, HB⟩ := hcut
    cases kq with
    | zero => exact absurd HA.out (by simp [spec_l09Best.j1])
    | succ kj9 =>
     have H := HA.out
     clear HA
     simp only [spec_l09Best.j1] at H
     by_cases c14 : x26_9 = true
     ·subst c14
      have H1 : (if 0 ≤ x9_1 then (if x9_1 < (t962.length : Int) then (if rdOf false t962 x9_1 = true then (if x8_1 < 0 then (spec_l09Best.l0 kj9 t958 t961 t962 x9_1 (wrap64 (x9_1 + 1))) else (if x9_1 < (t958.length : Int) then (if 0 ≤ x8_1 then (if x8_1 < (t958.length : Int) then (if (rd t958 x9_1) > (rd t958 x8_1) then (spec_l09Best.l0 kj9 t958 t961 t962 x9_1 (wrap64 (x9_1 + 1))) else (spec_l09Best.l0 kj9 t958 t961 t962 x8_1 (wrap64 (x9_1 + 1)))) else (none)) else (none)) else (none))) else (spec_l09Best.l0 kj9 t958 t961 t962 x8_1 (wrap64 (x9_1 + 1)))) else (none)) else (none)) = some r := by rw [if_pos rfl] at H; exact H
      clear H
      have H := H1
      clear H1
      by_cases c15 : 0 ≤ x9_1
      ·rw [if_pos c15] at H
       have c15b0 : decide (0 ≤ x9_1) = true := decide_eq_true c15
       clear c15
       by_cases c16 : x9_1 < (t962.length : Int)
       ·rw [if_pos c16] at H
        have c16b0 : decide (x9_1 < (t962.length : Int)) = true := decide_eq_true c16
        clear c16
        obtain ⟨bq17, hbq17⟩ : ∃ b_ : Bool, b_ = (rdOf false t962 x9_1) := ⟨_, rfl⟩
        replace H : (if bq17 = true then (if x8_1 < 0 then (spec_l09Best.l0 kj9 t958 t961 t962 x9_1 (wrap64 (x9_1 + 1))) else (if x9_1 < (t958.length : Int) then (if 0 ≤ x8_1 then (if x8_1 < (t958.length : Int) then (if (rd t958 x9_1) > (rd t958 x8_1) then (spec_l09Best.l0 kj9 t958 t961 t962 x9_1 (wrap64 (x9_1 + 1))) else (spec_l09Best.l0 kj9 t958 t961 t962 x8_1 (wrap64 (x9_1 + 1)))) else (none)) else (none)) else (none))) else (spec_l09Best.l0 kj9 t958 t961 t962 x8_1 (wrap64 (x9_1 + 1)))) = some r := by rw [← hbq17] at H; exact H
        have Nbq17 := Aside0.mk hbq17
        clear hbq17
        by_cases c18 : bq17 = true
        ·subst c18
         have H1 : (if x8_1 < 0 then (spec_l09Best.l0 kj9 t958 t961 t962 x9_1 (wrap64 (x9_1 + 1))) else (if x9_1 < (t958.length : Int) then (if 0 ≤ x8_1 then (if x8_1 < (t958.length : Int) then (if (rd t958 x9_1) > (rd t958 x8_1) then (spec_l09Best.l0 kj9 t958 t961 t962 x9_1 (wrap64 (x9_1 + 1))) else (spec_l09Best.l0 kj9 t958 t961 t962 x8_1 (wrap64 (x9_1 + 1)))) else (none)) else (none)) else (none))) = some r := by rw [if_pos rfl] at H; exact H
         clear H
         have H := H1
         clear H1
         by_cases c19 : x8_1 < 0
         ·rw [if_pos c19] at H
          have c19b0 : decide (x8_1 < 0) = true := decide_eq_true c19
          clear c19
          have H' := Aside0.mk H
          clear H
          obtain ⟨Ao20, co20, eo20⟩ := Kd.R_slice HO_7.out
          subst eo20
          have p965 : 0 ≤ (x9_1 : Int) := oda
          have q965 : x9_1 < (t962.length : Int) := oda
          obtain ⟨ad965, e965, hx965_0⟩ := Kd.at_bool (Kd.R_reads' HO_7.out).2.2 x9_1 p965 q965
          (try rw [← Nbq17.out] at hx965_0)
          cases e965
          replace p965 := eq_true p965
          replace q965 := eq_true q965
          go_wp2
          repeat (go_quiet (fail); try go_wp2)
          go_roundg kj9
          case measure => have := HK1.out; have := HJ9.out; omega
          case rel => exact ⟨(x9_1), (wrap64 (x9_1 + 1)), (by first | rfl | (simp; done) | (simp [*]; done)), (by first | rfl | (simp; done) | (simp [*]; done)), H', ⟨by have := HK1.out; have := HJ9.out; omega⟩, ⟨by (with_reducible repeat (first | apply Kd.R_alloc | apply Kd.R_drewN | apply Kd.R_drew)); exact HO_5.out⟩, ⟨by (with_reducible repeat (first | apply Kd.R_alloc | apply Kd.R_drewN | apply Kd.R_drew)); exact HO_7.out⟩, ⟨by (with_reducible repeat (first | refine blk_drewN ?_ _ | refine blk_drew ?_ | refine blk_alloc ?_ _)); exact BK957.out⟩, ⟨by repeat (first | (with_reducible first | exact HB.out | apply below_alloc | apply pw_below_drewN | apply below_drew1 | refine below_set ?_ GE957.out) | exact HB.out)⟩⟩
         ·rw [if_neg c19] at H
          have c19b0 : decide (x8_1 < 0) = false := decide_eq_false c19
          clear c19
          by_cases c21 : x9_1 < (t958.length : Int)
          ·rw [if_pos c21] at H
           have c21b0 : decide (x9_1 < (t958.length : Int)) = true := decide_eq_true c21
           clear c21
           by_cases c22 : 0 ≤ x8_1
           ·rw [if_pos c22] at H
            have c22b0 : decide (0 ≤ x8_1) = true := decide_eq_true c22
            clear c22
            by_cases c23 : x8_1 < (t958.length : Int)
            ·rw [if_pos c23] at H
             have c23b0 : decide (x8_1 < (t958.length : Int)) = true := decide_eq_true c23
             clear c23
             by_cases c24 : (rd t958 x9_1) > (rd t958 x8_1)
             ·rw [if_pos c24] at H
              have c24b0 : decide ((rd t958 x8_1) < (rd t958 x9_1)) = true := decide_eq_true c24
              clear c24
              have H' := Aside0.mk H
              clear H
              obtain ⟨Ao25, co25, eo25⟩ := Kd.R_slice HO_7.out
              subst eo25
              have p965 : 0 ≤ (x9_1 : Int) := oda
              have q965 : x9_1 < (t962.length : Int) := oda
              obtain ⟨ad965, e965, hx965_0⟩ := Kd.at_bool (Kd.R_reads' HO_7.out).2.2 x9_1 p965 q965
              (try rw [← Nbq17.out] at hx965_0)
              cases e965
              replace p965 := eq_true p965
              replace q965 := eq_true q965
              obtain ⟨Ao26, co26, eo26⟩ := Kd.R_slice HO_5.out
              subst eo26
              have p966 : 0 ≤ (x9_1 : Int) := oda
              have q966 : x9_1 < (t958.length : Int) := oda
              obtain ⟨ad966, e966, hx966_0⟩ := Kd.at_int (Kd.R_reads' HO_5.out).2.2 x9_1 p966 q966
              cases e966
              replace p966 := eq_true p966
              replace q966 := eq_true q966
              have p967 : 0 ≤ (x8_1 : Int) := oda
              have q967 : x8_1 < (t958.length : Int) := oda
              obtain ⟨ad967, e967, hx967_0⟩ := Kd.at_int (Kd.R_reads' HO_5.out).2.2 x8_1 p967 q967
              obtain rfl : ad966 = ad967 := (by injection e967)
              replace p967 := eq_true p967
              replace q967 := eq_true q967
              go_wp2
              repeat (go_quiet (fail); try go_wp2)
              go_roundg kj9
              case measure => have := HK1.out; have := HJ9.out; omega
              case rel => exact ⟨(x9_1), (wrap64 (x9_1 + 1)), (by first | rfl | (simp; done) | (simp [*]; done)), (by first | rfl | (simp; done) | (simp [*]; done)), H', ⟨by have := HK1.out; have := HJ9.out; omega⟩, ⟨by (with_reducible repeat (first | apply Kd.R_alloc | apply Kd.R_drewN | apply Kd.R_drew)); exact HO_5.out⟩, ⟨by (with_reducible repeat (first | apply Kd.R_alloc | apply Kd.R_drewN | apply Kd.R_drew)); exact HO_7.out⟩, ⟨by (with_reducible repeat (first | refine blk_drewN ?_ _ | refine blk_drew ?_ | refine blk_alloc ?_ _)); exact BK957.out⟩, ⟨by repeat (first | (with_reducible first | exact HB.out | apply below_alloc | apply pw_below_drewN | apply below_drew1 | refine below_set ?_ GE957.out) | exact HB.out)⟩⟩
             ·rw [if_neg c24] at H
              have c24b0 : decide ((rd t958 x8_1) < (rd t958 x9_1)) = false := decide_eq_false c24
              clear c24
              have H' := Aside0.mk H
              clear H
              obtain ⟨Ao27, co27, eo27⟩ := Kd.R_slice HO_7.out
              subst eo27
              have p965 : 0 ≤ (x9_1 : Int) := oda
              have q965 : x9_1 < (t962.length : Int) := oda
              obtain ⟨ad965, e965, hx965_0⟩ := Kd.at_bool (Kd.R_reads' HO_7.out).2.2 x9_1 p965 q965
              (try rw [← Nbq17.out] at hx965_0)
              cases e965
              replace p965 := eq_true p965
              replace q965 := eq_true q965
              obtain ⟨Ao28, co28, eo28⟩ := Kd.R_slice HO_5.out
              subst eo28
              have p966 : 0 ≤ (x9_1 : Int) := oda
              have q966 : x9_1 < (t958.length : Int) := oda
              obtain ⟨ad966, e966, hx966_0⟩ := Kd.at_int (Kd.R_reads' HO_5.out).2.2 x9_1 p966 q966
              cases e966
              replace p966 := eq_true p966
              replace q966 := eq_true q966
              have p967 : 0 ≤ (x8_1 : Int) := oda
              have q967 : x8_1 < (t958.length : Int) := oda
              obtain ⟨ad967, e967, hx967_0⟩ := Kd.at_int (Kd.R_reads' HO_5.out).2.2 x8_1 p967 q967
              obtain rfl : ad966 = ad967 := (by injection e967)
              replace p967 := eq_true p967
              replace q967 := eq_true q967
              go_wp2
              repeat (go_quiet (fail); try go_wp2)
              go_roundg kj9
              case measure => have := HK1.out; have := HJ9.out; omega
              case rel => exact ⟨(x8_1), (wrap64 (x9_1 + 1)), (by first | rfl | (simp; done) | (simp [*]; done)), (by first | rfl | (simp; done) | (simp [*]; done)), H', ⟨by have := HK1.out; have := HJ9.out; omega⟩, ⟨by (with_reducible repeat (first | apply Kd.R_alloc | apply Kd.R_drewN | apply Kd.R_drew)); exact HO_5.out⟩, ⟨by (with_reducible repeat (first | apply Kd.R_alloc | apply Kd.R_drewN | apply Kd.R_drew)); exact HO_7.out⟩, ⟨by (with_reducible repeat (first | refine blk_drewN ?_ _ | refine blk_drew ?_ | refine blk_alloc ?_ _)); exact BK957.out⟩, ⟨by repeat (first | (with_reducible first | exact HB.out | apply below_alloc | apply pw_below_drewN | apply below_drew1 | refine below_set ?_ GE957.out) | exact HB.out)⟩⟩
            ·rw [if_neg c23] at H
             exact absurd H (by simp)
           ·rw [if_neg c22] at H
            exact absurd H (by simp)
          ·rw [if_neg c21] at H
           exact absurd H (by simp)
        ·replace c18 := Bool.eq_false_iff.mpr c18
         subst c18
         have H1 : (spec_l09Best.l0 kj9 t958 t961 t962 x8_1 (wrap64 (x9_1 + 1))) = some r := by rw [if_neg (show ¬ (false = true) by decide)] at H; exact H
         clear H
         have H := H1
         clear H1
         have H' := Aside0.mk H
         clear H
         obtain ⟨Ao29, co29, eo29⟩ := Kd.R_slice HO_7.out
         subst eo29
         have p965 : 0 ≤ (x9_1 : Int) := oda
         have q965 : x9_1 < (t962.length : Int) := oda
         obtain ⟨ad965, e965, hx965_0⟩ := Kd.at_bool (Kd.R_reads' HO_7.out).2.2 x9_1 p965 q965
         (try rw [← Nbq17.out] at hx965_0)
         cases e965
         replace p965 := eq_true p965
         replace q965 := eq_true q965
         go_wp2
         repeat (go_quiet (fail); try go_wp2)
         go_roundg kj9
         case measure => have := HK1.out; have := HJ9.out; omega
         case rel => exact ⟨(x8_1), (wrap64 (x9_1 + 1)), (by first | rfl | (simp; done) | (simp [*]; done)), (by first | rfl | (simp; done) | (simp [*]; done)), H', ⟨by have := HK1.out; have := HJ9.out; omega⟩, ⟨by (with_reducible repeat (first | apply Kd.R_alloc | apply Kd.R_drewN | apply Kd.R_drew)); exact HO_5.out⟩, ⟨by (with_reducible repeat (first | apply Kd.R_alloc | apply Kd.R_drewN | apply Kd.R_drew)); exact HO_7.out⟩, ⟨by (with_reducible repeat (first | refine blk_drewN ?_ _ | refine blk_drew ?_ | refine blk_alloc ?_ _)); exact BK957.out⟩, ⟨by repeat (first | (with_reducible first | exact HB.out | apply below_alloc | apply pw_below_drewN | apply below_drew1 | refine below_set ?_ GE957.out) | exact HB.out)⟩⟩
       ·rw [if_neg c16] at H
        exact absurd H (by simp)
      ·rw [if_neg c15] at H
       exact absurd H (by simp)
     ·replace c14 := Bool.eq_false_iff.mpr c14
      subst c14
      have H1 : (some x8_1) = some r := by rw [if_neg (show ¬ (false = true) by decide)] at H; exact H
      clear H
      have H := H1
      clear H1
      obtain rfl := Option.some.inj H
      go_wp2
      repeat (go_quiet (fail); try go_wp2)
      go_ret
      exact ⟨by first | rfl | (simp [errW_none, errW_some] <;> rfl) | (simp [*, errW_none, errW_some] <;> rfl), by repeat (first | (with_reducible first | exact HB.out | apply below_alloc | apply pw_below_drewN | apply below_drew1 | refine below_set ?_ GE957.out) | exact HB.out)⟩
/-! ### spec_BestCell: function 50 -/
def spec_BestCell.f (k : Nat) (a0_0 : Int) (a0_1 : Int) (l0_2 : List Int) (l1 : List (S93)) : Option (Int × Int) := (spec_l09Shots.f k a0_0 a0_1 l0_2 l1).bind fun t969 => (if t969 = 0 then ((spec_l09Best.f k a0_0 a0_1 l0_2 l1).bind fun t970 => (if t970 < 0 then (some (0, 4)) else (some (t970, 0)))) else (some (0, t969)))
set_option maxHeartbeats 8000000 in
set_option maxRecDepth 100000 in
theorem spec_BestCell.calls (k : Nat) (a0_0 : Int) (a0_1 : Int) (A0_2 : Option Addr) (c0_2 : Nat) (l0_2 : List Int) (A1 : Option Addr) (c1 : Nat) (l1 : List (S93)) (r1 : Int) (r2 : Int) (w : World) (hr0_2 : Kd.C (Kd.int .i64) w A0_2 l0_2.length l0_2) (hc0_2 : l0_2.length ≤ c0_2) (hr1 : Kd.C k93 w A1 l1.length l1) (hc1 : l1.length ≤ c1) (h : spec_BestCell.f k a0_0 a0_1 l0_2 l1 = some (r1, r2)) :
  Calls Try.prog 50 #[.agg #[.int .i64 a0_0, .int .i64 a0_1, .slice A0_2 l0_2.length c0_2], .slice A1 l1.length c1] w fun e w' => e = .returned (.tuple #[.int .i64 r1, .int .i64 r2]) ∧ Below w.heap.size w w' := by
 have hu28 := Try.underlying28
 have HR0_2 := Aside0.mk hr0_2
 have HC0_2 := Aside0.mk hc0_2
 clear hr0_2 hc0_2
 have HR1 := Aside0.mk hr1
 have HC1 := Aside0.mk hc1
 clear hr1 hc1
 have HB := Aside0.mk (Below.refl w.heap.size w)
 have H : ((spec_l09Shots.f k a0_0 a0_1 l0_2 l1).bind fun t969 => (if t969 = 0 then ((spec_l09Best.f k a0_0 a0_1 l0_2 l1).bind fun t970 => (if t970 < 0 then (some (0, 4)) else (some (t970, 0)))) else (some (0, t969)))) = some (r1, r2) := h
 clear h
 replace H := Option.bind_eq_some_iff.mp H
 obtain ⟨t969, A30, H⟩ := H
 replace H : (if t969 = 0 then ((spec_l09Best.f k a0_0 a0_1 l0_2 l1).bind fun t970 => (if t970 < 0 then (some (0, 4)) else (some (t970, 0)))) else (some (0, t969))) = some (r1, r2) := H
 have A3 := Aside0.mk A30
 clear A30
 by_cases c4 : t969 = 0
 ·rw [if_pos c4] at H
  have c4b0 : (t969 == 0) = true := beq_iff_eq.mpr c4
  have c4b1 : (t969 != 0) = false := bne_eq_false_iff_eq.mpr c4
  clear c4
  replace H := Option.bind_eq_some_iff.mp H
  obtain ⟨t970, A50, H⟩ := H
  replace H : (if t970 < 0 then (some (0, 4)) else (some (t970, 0))) = some (r1, r2) := H
  have A5 := Aside0.mk A50
  clear A50
  by_cases c6 : t970 < 0
  ·rw [if_pos c6] at H
   have c6b0 : decide (t970 < 0) = true := decide_eq_true c6
   clear c6
   simp only [Option.some.injEq, Prod.mk.injEq] at H
   obtain ⟨rfl, rfl⟩ := H
   go_enter Try.func50, Try.ntmps50
   go_wp2_with (first | ((with_reducible refine gate_dst (N := 2) rfl ?_); refine box_event ?hg (N := 2) ?hd (cs := #[.int .i64 a0_0, .int .i64 a0_1, .slice A0_2 l0_2.length c0_2]) (t := 28) ?hr ?_; (case hd => rfl); (case hg => rfl); (case hr => first | (go_simp; done) | (go_simp; rfl)); intro gb968 hg w7 hbox hb; have n0_ := Aside0.mk (below_step hb_ hb); have n1_ := Aside0.mk (hbox); have n2_ := Aside0.mk ((by rw [hg]; exact (below_size hb_) : w.heap.size ≤ gb968)); have n3_ := Aside0.mk ((by rw [hg]; exact (below_size hb_) : w.heap.size ≤ gb968)); clear HB; have HB := n0_; have BK968 := n1_; have GW968 := n2_; have GE968 := n3_; clear n0_ n1_ n2_ n3_; clear hb hbox hg; have hcz8_0 : w7.cell? ⟨gb968, 0, none⟩ = some (.int .i64 a0_0) := (blk_cell BK968.out 0).trans rfl; have hcz8_1 : w7.cell? ⟨gb968, 1, none⟩ = some (.int .i64 a0_1) := (blk_cell BK968.out 1).trans rfl; have hcz8_2 : w7.cell? ⟨gb968, 2, none⟩ = some (.slice A0_2 l0_2.length c0_2) := (blk_cell BK968.out 2).trans rfl; have hfz8_0 := blk_frozen BK968.out 0; have hfz8_1 := blk_frozen BK968.out 1; have hfz8_2 := blk_frozen BK968.out 2) | ((with_reducible refine gate_callee (f := 83) rfl ?_); refine goesA_ (some 10) rfl rfl Try.func83 (by kernel_rfl) rfl #[.agg #[.int .i64 a0_0, .int .i64 a0_1, .slice A0_2 l0_2.length c0_2], .slice A1 l1.length c1] rfl ?_; (with_reducible refine (spec_l09Shots.calls k a0_0 a0_1 _ _ l0_2 _ _ l1 t969 _ ?side1 ?side2 ?side3 ?side4 A3.out).mono ?_); (case side1 => repeat (first | exact (Kd.C_below HR0_2.out HB.out) | (with_reducible refine Kd.C_alloc ?_ _) | (with_reducible refine Kd.C_drewN ?_ _) | (with_reducible refine Kd.C_drew ?_))); (case side2 => exact HC0_2.out); (case side3 => repeat (first | exact (Kd.C_below HR1.out HB.out) | (with_reducible refine Kd.C_alloc ?_ _) | (with_reducible refine Kd.C_drewN ?_ _) | (with_reducible refine Kd.C_drew ?_))); (case side4 => exact HC1.out); rintro e w9 ⟨rfl, hb⟩; refine ⟨_, rfl, ?_⟩; have n0_ := Aside0.mk (blk_below (g := gb968) (o := .cells #[.int .i64 a0_0, .int .i64 a0_1, .slice A0_2 l0_2.length c0_2] 28 (0, 0)) (by (with_reducible repeat (first | refine blk_drewN ?_ _ | refine blk_drew ?_ | refine blk_alloc ?_ _)); exact BK968.out) hb); have n1_ := Aside0.mk (below_step (by repeat (first | (with_reducible first | exact HB.out | apply below_alloc | apply pw_below_drewN | apply below_drew1 | refine below_set ?_ GE968.out) | exact HB.out)) hb); clear BK968; clear HB; have BK968 := n0_; have HB := n1_; clear n0_ n1_; (try clear hb); (try clear hb2); (try clear hk); (try clear hi); have hcz10_0 : w9.cell? ⟨gb968, 0, none⟩ = some (.int .i64 a0_0) := (blk_cell BK968.out 0).trans rfl; have hcz10_1 : w9.cell? ⟨gb968, 1, none⟩ = some (.int .i64 a0_1) := (blk_cell BK968.out 1).trans rfl; have hcz10_2 : w9.cell? ⟨gb968, 2, none⟩ = some (.slice A0_2 l0_2.length c0_2) := (blk_cell BK968.out 2).trans rfl; have hfz10_0 := blk_frozen BK968.out 0; have hfz10_1 := blk_frozen BK968.out 1; have hfz10_2 := blk_frozen BK968.out 2) | ((with_reducible refine gate_callee (f := 92) rfl ?_); refine goesA_ (some 16) rfl rfl Try.func92 (by kernel_rfl) rfl #[.agg #[.int .i64 a0_0, .int .i64 a0_1, .slice A0_2 l0_2.length c0_2], .slice A1 l1.length c1] rfl ?_; (with_reducible refine (spec_l09Best.calls k a0_0 a0_1 _ _ l0_2 _ _ l1 t970 _ ?side1 ?side2 ?side3 ?side4 A5.out).mono ?_); (case side1 => repeat (first | exact (Kd.C_below HR0_2.out HB.out) | (with_reducible refine Kd.C_alloc ?_ _) | (with_reducible refine Kd.C_drewN ?_ _) | (with_reducible refine Kd.C_drew ?_))); (case side2 => exact HC0_2.out); (case side3 => repeat (first | exact (Kd.C_below HR1.out HB.out) | (with_reducible refine Kd.C_alloc ?_ _) | (with_reducible refine Kd.C_drewN ?_ _) | (with_reducible refine Kd.C_drew ?_))); (case side4 => exact HC1.out); rintro e w11 ⟨rfl, hb⟩; refine ⟨_, rfl, ?_⟩; have n0_ := Aside0.mk (blk_below (g := gb968) (o := .cells #[.int .i64 a0_0, .int .i64 a0_1, .slice A0_2 l0_2.length c0_2] 28 (0, 0)) (by (with_reducible repeat (first | refine blk_drewN ?_ _ | refine blk_drew ?_ | refine blk_alloc ?_ _)); exact BK968.out) hb); have n1_ := Aside0.mk (below_step (by repeat (first | (with_reducible first | exact HB.out | apply below_alloc | apply pw_below_drewN | apply below_drew1 | refine below_set ?_ GE968.out) | exact HB.out)) hb); clear BK968; clear HB; have BK968 := n0_; have HB := n1_; clear n0_ n1_; (try clear hb); (try clear hb2); (try clear hk); (try clear hi)))
   go_ret2
   exact ⟨by first | rfl | (simp [errW_none, errW_some] <;> rfl) | (simp [*, errW_none, errW_some] <;> rfl), by repeat (first | (with_reducible first | exact HB.out | apply below_alloc | apply pw_below_drewN | apply below_drew1 | refine below_set ?_ GE968.out) | exact HB.out)⟩
  ·rw [if_neg c6] at H
   have c6b0 : decide (t970 < 0) = false := decide_eq_false c6
   clear c6
   simp only [Option.some.injEq, Prod.mk.injEq] at H
   obtain ⟨rfl, rfl⟩ := H
   go_enter Try.func50, Try.ntmps50
   go_wp2_with (first | ((with_reducible refine gate_dst (N := 2) rfl ?_); refine box_event ?hg (N := 2) ?hd (cs := #[.int .i64 a0_0, .int .i64 a0_1, .slice A0_2 l0_2.length c0_2]) (t := 28) ?hr ?_; (case hd => rfl); (case hg => rfl); (case hr => first | (go_simp; done) | (go_simp; rfl)); intro gb968 hg w12 hbox hb; have n0_ := Aside0.mk (below_step hb_ hb); have n1_ := Aside0.mk (hbox); have n2_ := Aside0.mk ((by rw [hg]; exact (below_size hb_) : w.heap.size ≤ gb968)); have n3_ := Aside0.mk ((by rw [hg]; exact (below_size hb_) : w.heap.size ≤ gb968)); clear HB; have HB := n0_; have BK968 := n1_; have GW968 := n2_; have GE968 := n3_; clear n0_ n1_ n2_ n3_; clear hb hbox hg; have hcz13_0 : w12.cell? ⟨gb968, 0, none⟩ = some (.int .i64 a0_0) := (blk_cell BK968.out 0).trans rfl; have hcz13_1 : w12.cell? ⟨gb968, 1, none⟩ = some (.int .i64 a0_1) := (blk_cell BK968.out 1).trans rfl; have hcz13_2 : w12.cell? ⟨gb968, 2, none⟩ = some (.slice A0_2 l0_2.length c0_2) := (blk_cell BK968.out 2).trans rfl; have hfz13_0 := blk_frozen BK968.out 0; have hfz13_1 := blk_frozen BK968.out 1; have hfz13_2 := blk_frozen BK968.out 2) | ((with_reducible refine gate_callee (f := 83) rfl ?_); refine goesA_ (some 10) rfl rfl Try.func83 (by kernel_rfl) rfl #[.agg #[.int .i64 a0_0, .int .i64 a0_1, .slice A0_2 l0_2.length c0_2], .slice A1 l1.length c1] rfl ?_; (with_reducible refine (spec_l09Shots.calls k a0_0 a0_1 _ _ l0_2 _ _ l1 t969 _ ?side1 ?side2 ?side3 ?side4 A3.out).mono ?_); (case side1 => repeat (first | exact (Kd.C_below HR0_2.out HB.out) | (with_reducible refine Kd.C_alloc ?_ _) | (with_reducible refine Kd.C_drewN ?_ _) | (with_reducible refine Kd.C_drew ?_))); (case side2 => exact HC0_2.out); (case side3 => repeat (first | exact (Kd.C_below HR1.out HB.out) | (with_reducible refine Kd.C_alloc ?_ _) | (with_reducible refine Kd.C_drewN ?_ _) | (with_reducible refine Kd.C_drew ?_))); (case side4 => exact HC1.out); rintro e w14 ⟨rfl, hb⟩; refine ⟨_, rfl, ?_⟩; have n0_ := Aside0.mk (blk_below (g := gb968) (o := .cells #[.int .i64 a0_0, .int .i64 a0_1, .slice A0_2 l0_2.length c0_2] 28 (0, 0)) (by (with_reducible repeat (first | refine blk_drewN ?_ _ | refine blk_drew ?_ | refine blk_alloc ?_ _)); exact BK968.out) hb); have n1_ := Aside0.mk (below_step (by repeat (first | (with_reducible first | exact HB.out | apply below_alloc | apply pw_below_drewN | apply below_drew1 | refine below_set ?_ GE968.out) | exact HB.out)) hb); clear BK968; clear HB; have BK968 := n0_; have HB := n1_; clear n0_ n1_; (try clear hb); (try clear hb2); (try clear hk); (try clear hi); have hcz15_0 : w14.cell? ⟨gb968, 0, none⟩ = some (.int .i64 a0_0) := (blk_cell BK968.out 0).trans rfl; have hcz15_1 : w14.cell? ⟨gb968, 1, none⟩ = some (.int .i64 a0_1) := (blk_cell BK968.out 1).trans rfl; have hcz15_2 : w14.cell? ⟨gb968, 2, none⟩ = some (.slice A0_2 l0_2.length c0_2) := (blk_cell BK968.out 2).trans rfl; have hfz15_0 := blk_frozen BK968.out 0; have hfz15_1 := blk_frozen BK968.out 1; have hfz15_2 := blk_frozen BK968.out 2) | ((with_reducible refine gate_callee (f := 92) rfl ?_); refine goesA_ (some 16) rfl rfl Try.func92 (by kernel_rfl) rfl #[.agg #[.int .i64 a0_0, .int .i64 a0_1, .slice A0_2 l0_2.length c0_2], .slice A1 l1.length c1] rfl ?_; (with_reducible refine (spec_l09Best.calls k a0_0 a0_1 _ _ l0_2 _ _ l1 t970 _ ?side1 ?side2 ?side3 ?side4 A5.out).mono ?_); (case side1 => repeat (first | exact (Kd.C_below HR0_2.out HB.out) | (with_reducible refine Kd.C_alloc ?_ _) | (with_reducible refine Kd.C_drewN ?_ _) | (with_reducible refine Kd.C_drew ?_))); (case side2 => exact HC0_2.out); (case side3 => repeat (first | exact (Kd.C_below HR1.out HB.out) | (with_reducible refine Kd.C_alloc ?_ _) | (with_reducible refine Kd.C_drewN ?_ _) | (with_reducible refine Kd.C_drew ?_))); (case side4 => exact HC1.out); rintro e w16 ⟨rfl, hb⟩; refine ⟨_, rfl, ?_⟩; have n0_ := Aside0.mk (blk_below (g := gb968) (o := .cells #[.int .i64 a0_0, .int .i64 a0_1, .slice A0_2 l0_2.length c0_2] 28 (0, 0)) (by (with_reducible repeat (first | refine blk_drewN ?_ _ | refine blk_drew ?_ | refine blk_alloc ?_ _)); exact BK968.out) hb); have n1_ := Aside0.mk (below_step (by repeat (first | (with_reducible first | exact HB.out | apply below_alloc | apply pw_below_drewN | apply below_drew1 | refine below_set ?_ GE968.out) | exact HB.out)) hb); clear BK968; clear HB; have BK968 := n0_; have HB := n1_; clear n0_ n1_; (try clear hb); (try clear hb2); (try clear hk); (try clear hi)))
   go_ret2
   exact ⟨by first | rfl | (simp [errW_none, errW_some] <;> rfl) | (simp [*, errW_none, errW_some] <;> rfl), by repeat (first | (with_reducible first | exact HB.out | apply below_alloc | apply pw_below_drewN | apply below_drew1 | refine below_set ?_ GE968.out) | exact HB.out)⟩
 ·rw [if_neg c4] at H
  have c4b0 : (t969 == 0) = false := beq_eq_false_iff_ne.mpr c4
  have c4b1 : (t969 != 0) = true := bne_iff_ne.mpr c4
  simp only [Option.some.injEq, Prod.mk.injEq] at H
  obtain ⟨rfl, rfl⟩ := H
  go_enter Try.func50, Try.ntmps50
  go_wp2_with (first | ((with_reducible refine gate_dst (N := 2) rfl ?_); refine box_event ?hg (N := 2) ?hd (cs := #[.int .i64 a0_0, .int .i64 a0_1, .slice A0_2 l0_2.length c0_2]) (t := 28) ?hr ?_; (case hd => rfl); (case hg => rfl); (case hr => first | (go_simp; done) | (go_simp; rfl)); intro gb968 hg w17 hbox hb; have n0_ := Aside0.mk (below_step hb_ hb); have n1_ := Aside0.mk (hbox); have n2_ := Aside0.mk ((by rw [hg]; exact (below_size hb_) : w.heap.size ≤ gb968)); have n3_ := Aside0.mk ((by rw [hg]; exact (below_size hb_) : w.heap.size ≤ gb968)); clear HB; have HB := n0_; have BK968 := n1_; have GW968 := n2_; have GE968 := n3_; clear n0_ n1_ n2_ n3_; clear hb hbox hg; have hcz18_0 : w17.cell? ⟨gb968, 0, none⟩ = some (.int .i64 a0_0) := (blk_cell BK968.out 0).trans rfl; have hcz18_1 : w17.cell? ⟨gb968, 1, none⟩ = some (.int .i64 a0_1) := (blk_cell BK968.out 1).trans rfl; have hcz18_2 : w17.cell? ⟨gb968, 2, none⟩ = some (.slice A0_2 l0_2.length c0_2) := (blk_cell BK968.out 2).trans rfl; have hfz18_0 := blk_frozen BK968.out 0; have hfz18_1 := blk_frozen BK968.out 1; have hfz18_2 := blk_frozen BK968.out 2) | ((with_reducible refine gate_callee (f := 83) rfl ?_); refine goesA_ (some 10) rfl rfl Try.func83 (by kernel_rfl) rfl #[.agg #[.int .i64 a0_0, .int .i64 a0_1, .slice A0_2 l0_2.length c0_2], .slice A1 l1.length c1] rfl ?_; (with_reducible refine (spec_l09Shots.calls k a0_0 a0_1 _ _ l0_2 _ _ l1 t969 _ ?side1 ?side2 ?side3 ?side4 A3.out).mono ?_); (case side1 => repeat (first | exact (Kd.C_below HR0_2.out HB.out) | (with_reducible refine Kd.C_alloc ?_ _) | (with_reducible refine Kd.C_drewN ?_ _) | (with_reducible refine Kd.C_drew ?_))); (case side2 => exact HC0_2.out); (case side3 => repeat (first | exact (Kd.C_below HR1.out HB.out) | (with_reducible refine Kd.C_alloc ?_ _) | (with_reducible refine Kd.C_drewN ?_ _) | (with_reducible refine Kd.C_drew ?_))); (case side4 => exact HC1.out); rintro e w19 ⟨rfl, hb⟩; refine ⟨_, rfl, ?_⟩; have n0_ := Aside0.mk (blk_below (g := gb968) (o := .cells #[.int .i64 a0_0, .int .i64 a0_1, .slice A0_2 l0_2.length c0_2] 28 (0, 0)) (by (with_reducible repeat (first | refine blk_drewN ?_ _ | refine blk_drew ?_ | refine blk_alloc ?_ _)); exact BK968.out) hb); have n1_ := Aside0.mk (below_step (by repeat (first | (with_reducible first | exact HB.out | apply below_alloc | apply pw_below_drewN | apply below_drew1 | refine below_set ?_ GE968.out) | exact HB.out)) hb); clear BK968; clear HB; have BK968 := n0_; have HB := n1_; clear n0_ n1_; (try clear hb); (try clear hb2); (try clear hk); (try clear hi)))
  go_ret2
  exact ⟨by first | rfl | (simp [errW_none, errW_some] <;> rfl) | (simp [*, errW_none, errW_some] <;> rfl), by repeat (first | (with_reducible first | exact HB.out | apply below_alloc | apply pw_below_drewN | apply below_drew1 | refine below_set ?_ GE968.out) | exact HB.out)⟩
/-! ### impl_shotsCode: function 89 -/
def impl_shotsCode.f (k : Nat) (a0_0 : Int) (a0_1 : Int) (l0_2 : List Int) (l1 : List (S93)) : Option (Int) := (impl_IsSea.f k a0_0 a0_1 l0_2).bind fun t836 => (if t836 = true then ((impl_Sea_areShots.f k a0_0 a0_1 l0_2 l1).bind fun t837 => ((impl_first.f k (([(⟨t837, 2⟩ : S70)] : List (S70)))).bind fun t841 => (some t841))) else (some 1))
set_option maxHeartbeats 8000000 in
set_option maxRecDepth 100000 in
theorem impl_shotsCode.calls (k : Nat) (a0_0 : Int) (a0_1 : Int) (A0_2 : Option Addr) (c0_2 : Nat) (l0_2 : List Int) (A1 : Option Addr) (c1 : Nat) (l1 : List (S93)) (r : Int) (w : World) (hr0_2 : Kd.C (Kd.int .i64) w A0_2 l0_2.length l0_2) (hc0_2 : l0_2.length ≤ c0_2) (hr1 : Kd.C k93 w A1 l1.length l1) (hc1 : l1.length ≤ c1) (h : impl_shotsCode.f k a0_0 a0_1 l0_2 l1 = some r) :
  Calls Try.prog 89 #[.agg #[.int .i64 a0_0, .int .i64 a0_1, .slice A0_2 l0_2.length c0_2], .slice A1 l1.length c1] w fun e w' => e = .returned (.int .i64 r) ∧ Below w.heap.size w w' := by
 have hu28 := Try.underlying28
 have hu70 := Try.underlying70
 have HR0_2 := Aside0.mk hr0_2
 have HC0_2 := Aside0.mk hc0_2
 clear hr0_2 hc0_2
 have HR1 := Aside0.mk hr1
 have HC1 := Aside0.mk hc1
 clear hr1 hc1
 have HB := Aside0.mk (Below.refl w.heap.size w)
 have H : ((impl_IsSea.f k a0_0 a0_1 l0_2).bind fun t836 => (if t836 = true then ((impl_Sea_areShots.f k a0_0 a0_1 l0_2 l1).bind fun t837 => ((impl_first.f k (([(⟨t837, 2⟩ : S70)] : List (S70)))).bind fun t841 => (some t841))) else (some 1))) = some r := h
 clear h
 replace H := Option.bind_eq_some_iff.mp H
 obtain ⟨t836, A30, H⟩ := H
 replace H : (if t836 = true then ((impl_Sea_areShots.f k a0_0 a0_1 l0_2 l1).bind fun t837 => ((impl_first.f k (([(⟨t837, 2⟩ : S70)] : List (S70)))).bind fun t841 => (some t841))) else (some 1)) = some r := H
 have A3 := Aside0.mk A30
 clear A30
 by_cases c4 : t836 = true
 ·subst c4
  have H1 : ((impl_Sea_areShots.f k a0_0 a0_1 l0_2 l1).bind fun t837 => ((impl_first.f k (([(⟨t837, 2⟩ : S70)] : List (S70)))).bind fun t841 => (some t841))) = some r := by rw [if_pos rfl] at H; exact H
  clear H
  have H := H1
  clear H1
  replace H := Option.bind_eq_some_iff.mp H
  obtain ⟨t837, A50, H⟩ := H
  replace H : ((impl_first.f k (([(⟨t837, 2⟩ : S70)] : List (S70)))).bind fun t841 => (some t841)) = some r := H
  have A5 := Aside0.mk A50
  clear A50
  obtain ⟨y838, hy838⟩ : ∃ y_ : List (S70), y_ = (([(⟨t837, 2⟩ : S70)] : List (S70))) := ⟨_, rfl⟩
  replace H : ((impl_first.f k y838).bind fun t841 => (some t841)) = some r := by first | (rw [hy838]; with_reducible exact H) | (have H2_ := (Option.bind_some _ _).symm.trans H; rw [hy838]; with_reducible exact H2_) | (have H2_ := (Option.bind_some _ _).symm.trans H; with_reducible exact H2_) | with_reducible exact H | (rw [hy838]; exact H) | exact H
  have Ny838 := Aside0.mk hy838
  clear hy838
  replace H := Option.bind_eq_some_iff.mp H
  obtain ⟨t841, A60, H⟩ := H
  replace H : (some t841) = some r := H
  have A6 := Aside0.mk A60
  clear A60
  obtain rfl := Option.some.inj H
  go_enter Try.func89, Try.ntmps89
  go_wp2_with (first | ((with_reducible refine gate_dst (N := 2) rfl ?_); refine box_event ?hg (N := 2) ?hd (cs := #[.int .i64 a0_0, .int .i64 a0_1, .slice A0_2 l0_2.length c0_2]) (t := 28) ?hr ?_; (case hd => rfl); (case hg => rfl); (case hr => first | (go_simp; done) | (go_simp; rfl)); intro gb835 hg w7 hbox hb; have n0_ := Aside0.mk (below_step hb_ hb); have n1_ := Aside0.mk (hbox); have n2_ := Aside0.mk ((by rw [hg]; exact (below_size hb_) : w.heap.size ≤ gb835)); have n3_ := Aside0.mk ((by rw [hg]; exact (below_size hb_) : w.heap.size ≤ gb835)); clear HB; have HB := n0_; have BK835 := n1_; have GW835 := n2_; have GE835 := n3_; clear n0_ n1_ n2_ n3_; clear hb hbox hg; have hcz8_0 : w7.cell? ⟨gb835, 0, none⟩ = some (.int .i64 a0_0) := (blk_cell BK835.out 0).trans rfl; have hcz8_1 : w7.cell? ⟨gb835, 1, none⟩ = some (.int .i64 a0_1) := (blk_cell BK835.out 1).trans rfl; have hcz8_2 : w7.cell? ⟨gb835, 2, none⟩ = some (.slice A0_2 l0_2.length c0_2) := (blk_cell BK835.out 2).trans rfl; have hfz8_0 := blk_frozen BK835.out 0; have hfz8_1 := blk_frozen BK835.out 1; have hfz8_2 := blk_frozen BK835.out 2) | ((with_reducible refine gate_callee (f := 59) rfl ?_); refine goesA_ (some 6) rfl rfl Try.func59 (by kernel_rfl) rfl #[.agg #[.int .i64 a0_0, .int .i64 a0_1, .slice A0_2 l0_2.length c0_2]] rfl ?_; (with_reducible refine (impl_IsSea.calls k a0_0 a0_1 _ _ l0_2 true _ ?side1 ?side2 A3.out).mono ?_); (case side1 => repeat (first | exact (Kd.C_below HR0_2.out HB.out) | (with_reducible refine Kd.C_alloc ?_ _) | (with_reducible refine Kd.C_drewN ?_ _) | (with_reducible refine Kd.C_drew ?_))); (case side2 => exact HC0_2.out); rintro e w9 ⟨rfl, hb⟩; refine ⟨_, rfl, ?_⟩; have n0_ := Aside0.mk (blk_below (g := gb835) (o := .cells #[.int .i64 a0_0, .int .i64 a0_1, .slice A0_2 l0_2.length c0_2] 28 (0, 0)) (by (with_reducible repeat (first | refine blk_drewN ?_ _ | refine blk_drew ?_ | refine blk_alloc ?_ _)); exact BK835.out) hb); have n1_ := Aside0.mk (below_step (by repeat (first | (with_reducible first | exact HB.out | apply below_alloc | apply pw_below_drewN | apply below_drew1 | refine below_set ?_ GE835.out) | exact HB.out)) hb); clear BK835; clear HB; have BK835 := n0_; have HB := n1_; clear n0_ n1_; (try clear hb); (try clear hb2); (try clear hk); (try clear hi); have hcz10_0 : w9.cell? ⟨gb835, 0, none⟩ = some (.int .i64 a0_0) := (blk_cell BK835.out 0).trans rfl; have hcz10_1 : w9.cell? ⟨gb835, 1, none⟩ = some (.int .i64 a0_1) := (blk_cell BK835.out 1).trans rfl; have hcz10_2 : w9.cell? ⟨gb835, 2, none⟩ = some (.slice A0_2 l0_2.length c0_2) := (blk_cell BK835.out 2).trans rfl; have hfz10_0 := blk_frozen BK835.out 0; have hfz10_1 := blk_frozen BK835.out 1; have hfz10_2 := blk_frozen BK835.out 2) | ((with_reducible refine gate_callee (f := 86) rfl ?_); refine goesA_ (some 10) rfl rfl Try.func86 (by kernel_rfl) rfl #[.agg #[.int .i64 a0_0, .int .i64 a0_1, .slice A0_2 l0_2.length c0_2], .slice A1 l1.length c1] rfl ?_; (with_reducible refine (impl_Sea_areShots.calls k a0_0 a0_1 _ _ l0_2 _ _ l1 t837 _ ?side1 ?side2 ?side3 ?side4 A5.out).mono ?_); (case side1 => repeat (first | exact (Kd.C_below HR0_2.out HB.out) | (with_reducible refine Kd.C_alloc ?_ _) | (with_reducible refine Kd.C_drewN ?_ _) | (with_reducible refine Kd.C_drew ?_))); (case side2 => exact HC0_2.out); (case side3 => repeat (first | exact (Kd.C_below HR1.out HB.out) | (with_reducible refine Kd.C_alloc ?_ _) | (with_reducible refine Kd.C_drewN ?_ _) | (with_reducible refine Kd.C_drew ?_))); (case side4 => exact HC1.out); rintro e w11 ⟨rfl, hb⟩; refine ⟨_, rfl, ?_⟩; have n0_ := Aside0.mk (blk_below (g := gb835) (o := .cells #[.int .i64 a0_0, .int .i64 a0_1, .slice A0_2 l0_2.length c0_2] 28 (0, 0)) (by (with_reducible repeat (first | refine blk_drewN ?_ _ | refine blk_drew ?_ | refine blk_alloc ?_ _)); exact BK835.out) hb); have n1_ := Aside0.mk (below_step (by repeat (first | (with_reducible first | exact HB.out | apply below_alloc | apply pw_below_drewN | apply below_drew1 | refine below_set ?_ GE835.out) | exact HB.out)) hb); clear BK835; clear HB; have BK835 := n0_; have HB := n1_; clear n0_ n1_; (try clear hb); (try clear hb2); (try clear hk); (try clear hi)) | ((with_reducible refine gate_dst (N := 12) rfl ?_); refine Kd.R_lit k70 _ 70 ?hg (N := 12) ?hd (xs := ([(⟨t837, 2⟩ : S70)] : List (S70))) (inner := [.bool t837, .int .i64 2]) (ok := fun _ => True) (okp := fun _ => True) ?hr ?hp (fun _ hk => hk) trivial (Below.refl _ _) (Nat.le_refl _) (by simp) ?_; (case hd => rfl); (case hg => rfl); (case hr => first | (go_simp; done) | (go_simp; rfl)); (case hp => exact (Reps.c2 (show Kd.M k70 _ _ _ (⟨t837, 2⟩ : S70) [.bool t837, .int .i64 2] from (k70_mkM _ _ _ (⟨t837, 2⟩ : S70) )) (Reps.none _ _))); intro v839 w12 ho13 hb hg_ hnew_; clear hg_ hnew_; (first | rw [← Ny838.out] at ho13 | (simp only [Int.reduceToNat] at ho13; rw [← Ny838.out] at ho13)); have n0_ := Aside0.mk (Kd.R_lower ho13 (below_size (by repeat (first | (with_reducible first | exact HB.out | apply below_alloc | apply pw_below_drewN | apply below_drew1 | refine below_set ?_ GE835.out) | exact HB.out)))); have n1_ := Aside0.mk (blk_below (g := gb835) (o := .cells #[.int .i64 a0_0, .int .i64 a0_1, .slice A0_2 l0_2.length c0_2] 28 (0, 0)) (by (with_reducible repeat (first | refine blk_drewN ?_ _ | refine blk_drew ?_ | refine blk_alloc ?_ _)); exact BK835.out) hb); have n2_ := Aside0.mk (below_step (by repeat (first | (with_reducible first | exact HB.out | apply below_alloc | apply pw_below_drewN | apply below_drew1 | refine below_set ?_ GE835.out) | exact HB.out)) hb); clear BK835; clear HB; have HO840 := n0_; have BK835 := n1_; have HB := n2_; clear n0_ n1_ n2_; clear hb ho13; obtain ⟨Ao14, co14, eo14⟩ := Kd.R_slice HO840.out; subst eo14) | ((with_reducible refine gate_callee (f := 58) rfl ?_); refine goesA_ (some 13) rfl rfl Try.func58 (by kernel_rfl) rfl #[.slice Ao14 y838.length co14] rfl ?_; (with_reducible refine (impl_first.calls k _ _ y838 t841 _ ?side1 ?side2 A6.out).mono ?_); (case side1 => repeat (first | exact (Kd.R_reads' HO840.out).2.2 | (with_reducible refine Kd.C_alloc ?_ _) | (with_reducible refine Kd.C_drewN ?_ _) | (with_reducible refine Kd.C_drew ?_))); (case side2 => exact (Kd.R_reads' HO840.out).2.1); rintro e w15 ⟨rfl, hb⟩; refine ⟨_, rfl, ?_⟩; have n0_ := Aside0.mk (Kd.R_below (by (with_reducible repeat (first | apply Kd.R_alloc | apply Kd.R_drewN | apply Kd.R_drew)); exact HO840.out) hb); have n1_ := Aside0.mk (blk_below (g := gb835) (o := .cells #[.int .i64 a0_0, .int .i64 a0_1, .slice A0_2 l0_2.length c0_2] 28 (0, 0)) (by (with_reducible repeat (first | refine blk_drewN ?_ _ | refine blk_drew ?_ | refine blk_alloc ?_ _)); exact BK835.out) hb); have n2_ := Aside0.mk (below_step (by repeat (first | (with_reducible first | exact HB.out | apply below_alloc | apply pw_below_drewN | apply below_drew1 | refine below_set ?_ GE835.out) | exact HB.out)) hb); clear HO840; clear BK835; clear HB; have HO840 := n0_; have BK835 := n1_; have HB := n2_; clear n0_ n1_ n2_; (try clear hb); (try clear hb2); (try clear hk); (try clear hi)))
  go_ret
  exact ⟨by first | rfl | (simp [errW_none, errW_some] <;> rfl) | (simp [*, errW_none, errW_some] <;> rfl), by repeat (first | (with_reducible first | exact HB.out | apply below_alloc | apply pw_below_drewN | apply below_drew1 | refine below_set ?_ GE835.out) | exact HB.out)⟩
 ·replace c4 := Bool.eq_false_iff.mpr c4
  subst c4
  have H1 : (some 1) = some r := by rw [if_neg (show ¬ (false = true) by decide)] at H; exact H
  clear H
  have H := H1
  clear H1
  obtain rfl := Option.some.inj H
  go_enter Try.func89, Try.ntmps89
  go_wp2_with (first | ((with_reducible refine gate_dst (N := 2) rfl ?_); refine box_event ?hg (N := 2) ?hd (cs := #[.int .i64 a0_0, .int .i64 a0_1, .slice A0_2 l0_2.length c0_2]) (t := 28) ?hr ?_; (case hd => rfl); (case hg => rfl); (case hr => first | (go_simp; done) | (go_simp; rfl)); intro gb835 hg w16 hbox hb; have n0_ := Aside0.mk (below_step hb_ hb); have n1_ := Aside0.mk (hbox); have n2_ := Aside0.mk ((by rw [hg]; exact (below_size hb_) : w.heap.size ≤ gb835)); have n3_ := Aside0.mk ((by rw [hg]; exact (below_size hb_) : w.heap.size ≤ gb835)); clear HB; have HB := n0_; have BK835 := n1_; have GW835 := n2_; have GE835 := n3_; clear n0_ n1_ n2_ n3_; clear hb hbox hg; have hcz17_0 : w16.cell? ⟨gb835, 0, none⟩ = some (.int .i64 a0_0) := (blk_cell BK835.out 0).trans rfl; have hcz17_1 : w16.cell? ⟨gb835, 1, none⟩ = some (.int .i64 a0_1) := (blk_cell BK835.out 1).trans rfl; have hcz17_2 : w16.cell? ⟨gb835, 2, none⟩ = some (.slice A0_2 l0_2.length c0_2) := (blk_cell BK835.out 2).trans rfl; have hfz17_0 := blk_frozen BK835.out 0; have hfz17_1 := blk_frozen BK835.out 1; have hfz17_2 := blk_frozen BK835.out 2) | ((with_reducible refine gate_callee (f := 59) rfl ?_); refine goesA_ (some 6) rfl rfl Try.func59 (by kernel_rfl) rfl #[.agg #[.int .i64 a0_0, .int .i64 a0_1, .slice A0_2 l0_2.length c0_2]] rfl ?_; (with_reducible refine (impl_IsSea.calls k a0_0 a0_1 _ _ l0_2 false _ ?side1 ?side2 A3.out).mono ?_); (case side1 => repeat (first | exact (Kd.C_below HR0_2.out HB.out) | (with_reducible refine Kd.C_alloc ?_ _) | (with_reducible refine Kd.C_drewN ?_ _) | (with_reducible refine Kd.C_drew ?_))); (case side2 => exact HC0_2.out); rintro e w18 ⟨rfl, hb⟩; refine ⟨_, rfl, ?_⟩; have n0_ := Aside0.mk (blk_below (g := gb835) (o := .cells #[.int .i64 a0_0, .int .i64 a0_1, .slice A0_2 l0_2.length c0_2] 28 (0, 0)) (by (with_reducible repeat (first | refine blk_drewN ?_ _ | refine blk_drew ?_ | refine blk_alloc ?_ _)); exact BK835.out) hb); have n1_ := Aside0.mk (below_step (by repeat (first | (with_reducible first | exact HB.out | apply below_alloc | apply pw_below_drewN | apply below_drew1 | refine below_set ?_ GE835.out) | exact HB.out)) hb); clear BK835; clear HB; have BK835 := n0_; have HB := n1_; clear n0_ n1_; (try clear hb); (try clear hb2); (try clear hk); (try clear hi)))
  go_ret
  exact ⟨by first | rfl | (simp [errW_none, errW_some] <;> rfl) | (simp [*, errW_none, errW_some] <;> rfl), by repeat (first | (with_reducible first | exact HB.out | apply below_alloc | apply pw_below_drewN | apply below_drew1 | refine below_set ?_ GE835.out) | exact HB.out)⟩
-- (impl.Sea).open, by hand: the cells at which no shot was, and that are accepted. (for 73 72)
-- PredK idxK chosenTo
/-- What is asked of a function value over shots. -/
def PredS (g : Nat) (lb : Array Value) (p : S93 → Bool) (w : World) : Prop :=
  ∀ (W : World) (x : S93), Below w.heap.size w W → Calls Try.prog g (#[.agg #[.int .i64 x.f0, .int .i64 x.f1]] ++ lb) W fun e w' => e = .returned (.bool (p x)) ∧ Below W.heap.size W w'
theorem wrap_nat3_ {N : Nat} (h : N ≤ 25) : wrap64 (N : Int) = (N : Int) := by unfold wrap64; omega
set_option maxHeartbeats 4000000 in
set_option maxRecDepth 100000 in
theorem idxShot_calls (g : Nat) (lb : Array Value) (p : S93 → Bool) (eg : ∀ args w, (callFunc g args).run Try.prog w = .ok (.enter g args) w)
    (A0 : Option Addr) (c0 : Nat) (l0 : List S93) (w : World) (hp : PredS g lb p w) (hr0 : Kd.C k93 w A0 l0.length l0) (hm : l0.length ≤ 1048576) :
    Calls Try.prog 127 #[.slice A0 l0.length c0, .func (.func g) #[] lb] w fun e w' => e = .returned (.int .i64 (idxK p l0 0)) ∧ Below w.heap.size w w' := by
  have HP := Aside0.mk hp
  have HR := Aside0.mk hr0
  clear hp hr0
  go_enter Try.func127, Try.ntmps127
  go_wp2
  go_loopg [5, 8] l0.length (fun gg _ s8 wr => ∃ kk : Nat, kk ≤ l0.length ∧ l0.length - kk ≤ gg ∧ s8 = .int .i64 kk ∧ Aside0 (idxK p (l0.drop kk) kk = idxK p l0 0) ∧ Aside0 (Below w.heap.size w wr))
  case atStart => exact ⟨0, Nat.zero_le _, by omega, rfl, ⟨rfl⟩, ⟨Below.refl _ _⟩⟩
  case round =>
    obtain ⟨kk, hkk, hg, rfl, A, HB⟩ := hrel
    by_cases hlt : kk < l0.length
    · have hltz : (kk : Int) < (l0.length : Int) := by omega
      obtain ⟨ad, rfl, hc1, hc2⟩ := at_T93 (Kd.C_below HR.out HB.out) (kk : Int) (by omega) hltz
      have hcall := HP.out wr (rd_T93 l0 (kk : Int)) HB.out
      have E := Aside0.mk (idxK_drop p l0 kk hlt)
      rw [← rd93_get l0 kk hlt] at E
      have hk0 : (0 : Int) ≤ (kk : Int) := by omega
      generalize rd_T93 l0 (kk : Int) = x at hc1 hc2 hcall E
      rw [Int.toNat_natCast] at hc1 hc2
      generalize p x = b at hcall E
      cases b with
      | true =>
        go_wp2_with (go_at_fn g; refine hcall.mono ?_; rintro e w' ⟨rfl, hb⟩)
        go_ret
        refine ⟨?_, below_then HB.out HB.out.size hb⟩
        rw [← A.out, E.out]; rfl
      | false =>
        go_wp2_with (go_at_fn g; refine hcall.mono ?_; rintro e w' ⟨rfl, hb⟩)
        go_roundg (l0.length - (kk + 1))
        case measure => omega
        case rel => exact ⟨kk + 1, by omega, by omega, by go_num, ⟨by rw [← A.out, E.out]; rfl⟩, ⟨below_then HB.out HB.out.size hb⟩⟩
    · have hltz : ¬ (kk : Int) < (l0.length : Int) := by omega
      have : kk = l0.length := by omega
      subst this
      go_wp2
      go_ret
      refine ⟨?_, HB.out⟩
      rw [← A.out]; simp [idxK]
set_option maxHeartbeats 1000000 in
theorem conShot_calls (g : Nat) (lb : Array Value) (p : S93 → Bool) (eg : ∀ args w, (callFunc g args).run Try.prog w = .ok (.enter g args) w)
    (A0 : Option Addr) (c0 : Nat) (l0 : List S93) (w : World) (hp : PredS g lb p w) (hr0 : Kd.C k93 w A0 l0.length l0) (hm : l0.length ≤ 1048576) :
    Calls Try.prog 115 #[.slice A0 l0.length c0, .func (.func g) #[] lb] w fun e w' => e = .returned (.bool (l0.any p)) ∧ Below w.heap.size w w' := by
  have HI := idxShot_calls g lb p eg A0 c0 l0 w hp hr0 hm
  have HA := Aside0.mk (idxK_any p l0)
  clear hp hr0
  generalize idxK p l0 0 = ix at HI HA
  go_enter Try.func115, Try.ntmps115
  go_wp2_with (go_at_call 127; refine HI.mono ?_; rintro e w' ⟨rfl, hb⟩)
  go_ret
  exact ⟨by rw [← HA.out]; first | rfl | simp [ge_iff_le], hb⟩
set_option maxHeartbeats 1000000 in
theorem pred_cell {w : World} {g3 : Nat} {c : Int} (h : w.heap[g3]? = some (.cells #[.int .i64 c] 2 (0, 0))) : PredS 116 #[.pointer (some ⟨g3, 0, none⟩)] (fun x => x.f0 == c) w := by
  intro W x hb
  have HC := Aside0.mk (blk_below h hb)
  have HB := Aside0.mk (Below.refl W.heap.size W)
  clear h hb
  obtain ⟨b, hbb⟩ : ∃ b, (x.f0 == c) = b := ⟨_, rfl⟩
  have hu93 := Try.underlying93
  show Calls _ _ _ _ fun e w' => e = .returned (.bool (x.f0 == c)) ∧ _
  rw [hbb]
  go_enter Try.func116, Try.ntmps116
  go_wp2_with (first | ((with_reducible refine gate_dst (N := 2) rfl ?_); refine box_event ?hg (N := 2) ?hd (cs := #[.int .i64 x.f0, .int .i64 x.f1]) (t := 93) ?hr ?_; (case hd => rfl); (case hg => rfl); (case hr => first | (go_simp; done) | (go_simp; rfl)); intro g2 hg wb2 hbox hb; have HX := Aside0.mk hbox; have n_ := Aside0.mk (blk_below HC.out hb); clear HC; have HC := n_; clear n_; have n_ := Aside0.mk (below_step HB.out hb); clear HB; have HB := n_; clear n_; clear hbox hb hg; have hx0 := (blk_cell HX.out 0).trans rfl; have hx1 := (blk_cell HX.out 1).trans rfl; have hc0 := (blk_cell HC.out 0).trans rfl))
  go_ret
  exact ⟨by first | rfl | rw [hbb], HB.out⟩
set_option maxHeartbeats 4000000 in
set_option maxRecDepth 100000 in
/-- The function value that open hands on. -/
theorem pred_open {w W0_ : World} {ga : Nat} {lba : Array Value} {q : Int → Prop} {acc : Int → Bool} {g4 g5 : Nat} {A3 : Option Addr} {c3 : Nat} {T : List S93} (hacc : (∀ args w, (callFunc ga args).run Try.prog w = .ok (.enter ga args) w) ∧ PredK Try.prog ga lba (Kd.int .i64) q acc w) (hB0 : Below w.heap.size w W0_)
    (h5 : W0_.heap[g5]? = some (.cells #[.func (.func ga) #[] lba] 82 (0, 0))) (h4 : W0_.heap[g4]? = some (.cells #[.slice A3 T.length c3] 55 (0, 0))) (hT : Kd.C k93 w A3 T.length T) (hTl : T.length ≤ 1048576) :
    PredK Try.prog 114 #[.pointer (some ⟨g5, 0, none⟩), .pointer (some ⟨g4, 0, none⟩)] (Kd.int .i64) q (fun c => acc c && !(T.any fun x => x.f0 == c)) W0_ := by
  intro W c v hq hK hb
  have hv : v = .int .i64 c := by have e : [v] = [.int .i64 c] := hK; injection e
  subst hv
  have eg116 : ∀ args w, (callFunc 116 args).run Try.prog w = .ok (.enter 116 args) w := enters_of Try.func116 (by kernel_rfl) rfl
  have HB := Aside0.mk (below_step hB0 hb)
  have H5 := Aside0.mk (blk_below h5 hb)
  have H4 := Aside0.mk (blk_below h4 hb)
  have eg := hacc.1
  have HAcc := Aside0.mk hacc.2
  have HT := Aside0.mk hT
  have HTl := Aside0.mk hTl
  have HQ := Aside0.mk hq
  have HBW := Aside0.mk (show ∀ w' : World, Below w.heap.size w w' → W.heap.size ≤ w'.heap.size → True from fun _ _ _ => trivial)
  have HB0 := Aside0.mk (Below.refl W.heap.size W)
  clear hacc hB0 h5 h4 hT hTl hq hK hb HBW
  obtain ⟨ab, hab⟩ : ∃ ab, acc c = ab := ⟨_, rfl⟩
  obtain ⟨tb, htb⟩ : ∃ tb, (T.any fun x => x.f0 == c) = tb := ⟨_, rfl⟩
  show Calls _ _ _ _ fun e w' => e = .returned (.bool (acc c && !(T.any fun x => x.f0 == c))) ∧ _
  rw [htb, hab]
  have HAB := Aside0.mk hab
  have HTB := Aside0.mk htb
  clear hab htb
  cases ab with
  | false =>
    go_enter Try.func114, Try.ntmps114
    go_wp2_with (first | ((with_reducible refine gate_dst (N := 3) rfl ?_); refine box_event ?hg (N := 3) ?hd (cs := #[.int .i64 c]) (t := 2) ?hr ?_; (case hd => rfl); (case hg => rfl); (case hr => first | (go_simp; done) | (go_simp; rfl)); intro g3 hg wb3 hbox hb; have HX := Aside0.mk hbox; have n_ := Aside0.mk (blk_below H5.out hb); clear H5; have H5 := n_; clear n_; have n_ := Aside0.mk (blk_below H4.out hb); clear H4; have H4 := n_; clear n_; have n_ := Aside0.mk (below_step HB.out hb); clear HB; have HB := n_; clear n_; have n_ := Aside0.mk (below_step HB0.out hb); clear HB0; have HB0 := n_; clear n_; clear hbox hb hg; have h3_ := (blk_cell HX.out 0).trans rfl; have h5_ := (blk_cell H5.out 0).trans rfl; have h4_ := (blk_cell H4.out 0).trans rfl) | (go_at_fn ga; have hc_ := HAcc.out _ c (.int .i64 c) HQ.out rfl HB.out; rw [HAB.out] at hc_; refine hc_.mono ?_; clear hc_; rintro e wa ⟨rfl, hb⟩; (try clear h3_); (try clear h4_); (try clear h5_); have n1_ := Aside0.mk (blk_below HX.out hb); have n2_ := Aside0.mk (blk_below H4.out hb); have n3_ := Aside0.mk (below_step HB.out hb); have n4_ := Aside0.mk (below_step HB0.out hb); clear hb HX H4 H5 HB HB0; have HX := n1_; have H4 := n2_; have HB := n3_; have HB0 := n4_; clear n1_ n2_ n3_ n4_; have h3_ := (blk_cell HX.out 0).trans rfl; have h4_ := (blk_cell H4.out 0).trans rfl))
    go_ret
    exact ⟨rfl, HB0.out⟩
  | true =>
    go_enter Try.func114, Try.ntmps114
    go_wp2_with (first | ((with_reducible refine gate_dst (N := 3) rfl ?_); refine box_event ?hg (N := 3) ?hd (cs := #[.int .i64 c]) (t := 2) ?hr ?_; (case hd => rfl); (case hg => rfl); (case hr => first | (go_simp; done) | (go_simp; rfl)); intro g3 hg wb3 hbox hb; have HX := Aside0.mk hbox; have n_ := Aside0.mk (blk_below H5.out hb); clear H5; have H5 := n_; clear n_; have n_ := Aside0.mk (blk_below H4.out hb); clear H4; have H4 := n_; clear n_; have n_ := Aside0.mk (below_step HB.out hb); clear HB; have HB := n_; clear n_; have n_ := Aside0.mk (below_step HB0.out hb); clear HB0; have HB0 := n_; clear n_; clear hbox hb hg; have h3_ := (blk_cell HX.out 0).trans rfl; have h5_ := (blk_cell H5.out 0).trans rfl; have h4_ := (blk_cell H4.out 0).trans rfl) | (go_at_fn ga; have hc_ := HAcc.out _ c (.int .i64 c) HQ.out rfl HB.out; rw [HAB.out] at hc_; refine hc_.mono ?_; clear hc_; rintro e wa ⟨rfl, hb⟩; (try clear h3_); (try clear h4_); (try clear h5_); have n1_ := Aside0.mk (blk_below HX.out hb); have n2_ := Aside0.mk (blk_below H4.out hb); have n3_ := Aside0.mk (below_step HB.out hb); have n4_ := Aside0.mk (below_step HB0.out hb); clear hb HX H4 H5 HB HB0; have HX := n1_; have H4 := n2_; have HB := n3_; have HB0 := n4_; clear n1_ n2_ n3_ n4_; have h3_ := (blk_cell HX.out 0).trans rfl; have h4_ := (blk_cell H4.out 0).trans rfl) | (go_at_call 115; have hc_ := conShot_calls 116 #[.pointer (some ⟨g3, 0, none⟩)] (fun x => x.f0 == c) eg116 A3 c3 T _ (pred_cell HX.out) (Kd.C_below HT.out HB.out) HTl.out; rw [HTB.out] at hc_; refine hc_.mono ?_; clear hc_; rintro e wc ⟨rfl, hb⟩; (try clear h3_); (try clear h4_); (try clear h5_); have n3_ := Aside0.mk (below_step HB0.out hb); clear hb HB0; have HB0 := n3_; clear n3_))
    go_ret
    exact ⟨rfl, HB0.out⟩
/-- The cells that open gives. -/
def openV (N : Nat) (T : List S93) (acc : Int → Bool) : List Int := chosenTo (fun c => acc c && !(T.any fun x => x.f0 == c)) N
set_option maxHeartbeats 4000000 in
set_option maxRecDepth 100000 in
theorem open_calls {W0 H0 N : Nat} (hN : W0 * H0 = N) (hN25 : N ≤ 25) {ga : Nat} {lba : Array Value} {q : Int → Prop} {acc : Int → Bool} (eg : ∀ args w, (callFunc ga args).run Try.prog w = .ok (.enter ga args) w) {w : World} (hacc : PredK Try.prog ga lba (Kd.int .i64) q acc w) (hq : ∀ x, 0 ≤ x → x < (N : Int) → q x)
    {A2 : Option Addr} {c2 : Nat} {ships : List Int} {A3 : Option Addr} {c3 : Nat} {T : List S93} (hs : Kd.C (Kd.int .i64) w A2 ships.length ships) (hsc : ships.length ≤ c2) (hT : Kd.C k93 w A3 T.length T) (hTl : T.length ≤ 1048576) :
    Calls Try.prog 95 #[.agg #[.int .i64 (W0 : Int), .int .i64 (H0 : Int), .slice A2 ships.length c2], .slice A3 T.length c3, .func (.func ga) #[] lba] w fun e w' => ∃ v0_ : Value, e = .returned v0_ ∧ Kd.R (Kd.int .i64) 2 w' w.heap.size (fun _ => True) v0_ (openV N T acc) ∧ Below w.heap.size w w' := by
  have eg114 : ∀ args w, (callFunc 114 args).run Try.prog w = .ok (.enter 114 args) w := enters_of Try.func114 (by kernel_rfl) rfl
  have HAcc := Aside0.mk (And.intro eg hacc)
  have HQ := Aside0.mk hq
  have HSh := Aside0.mk hs
  have HC2 := Aside0.mk hsc
  have HT := Aside0.mk hT
  have HTl := Aside0.mk hTl
  have HN17 := Aside0.mk (show (N : Int) ≤ 17592186044416 by omega)
  have HCel := Aside0.mk (show impl_Sea_cells.f (W0 : Int) (H0 : Int) ships = some (N : Int) by
    unfold impl_Sea_cells.f
    rw [show (W0 : Int) * (H0 : Int) = (N : Int) by rw [← hN, Int.natCast_mul], wrap_nat3_ hN25])
  have HB := Aside0.mk (Below.refl w.heap.size w)
  have hu28 := Try.underlying28
  clear hacc hq hs hsc hT hTl hN hN25
  go_enter Try.func95, Try.ntmps95
  go_wp2_with (first | ((with_reducible refine gate_dst (N := 3) rfl ?_); refine box_event ?hg (N := 3) ?hd (cs := #[.int .i64 (W0 : Int), .int .i64 (H0 : Int), .slice A2 ships.length c2]) (t := 28) ?hr ?_; (case hd => rfl); (case hg => rfl); (case hr => first | (go_simp; done) | (go_simp; rfl)); intro g3 hg wb3 hbox hb; have H3 := Aside0.mk hbox; have n_ := Aside0.mk (below_step HB.out hb); clear HB; have HB := n_; clear n_; clear hbox hb hg; have s0_ := (blk_cell H3.out 0).trans rfl; have s1_ := (blk_cell H3.out 1).trans rfl; have s2_ := (blk_cell H3.out 2).trans rfl) | ((with_reducible refine gate_dst (N := 4) rfl ?_); refine box_event ?hg (N := 4) ?hd (cs := #[.slice A3 T.length c3]) (t := 55) ?hr ?_; (case hd => rfl); (case hg => rfl); (case hr => first | (go_simp; done) | (go_simp; rfl)); intro g4 hg wb4 hbox hb; have H4 := Aside0.mk hbox; have n_ := Aside0.mk (below_step HB.out hb); clear HB; have HB := n_; clear n_; have n_ := Aside0.mk (blk_below H3.out hb); clear H3; have H3 := n_; clear n_; clear hbox hb hg; (try clear s0_); (try clear s1_); (try clear s2_); have s0_ := (blk_cell H3.out 0).trans rfl; have s1_ := (blk_cell H3.out 1).trans rfl; have s2_ := (blk_cell H3.out 2).trans rfl) | ((with_reducible refine gate_dst (N := 5) rfl ?_); refine box_event ?hg (N := 5) ?hd (cs := #[.func (.func ga) #[] lba]) (t := 82) ?hr ?_; (case hd => rfl); (case hg => rfl); (case hr => first | (go_simp; done) | (go_simp; rfl)); intro g5 hg wb5 hbox hb; have H5 := Aside0.mk hbox; have n_ := Aside0.mk (below_step HB.out hb); clear HB; have HB := n_; clear n_; have n_ := Aside0.mk (blk_below H3.out hb); clear H3; have H3 := n_; clear n_; have n_ := Aside0.mk (blk_below H4.out hb); clear H4; have H4 := n_; clear n_; clear hbox hb hg; (try clear s0_); (try clear s1_); (try clear s2_); have s0_ := (blk_cell H3.out 0).trans rfl; have s1_ := (blk_cell H3.out 1).trans rfl; have s2_ := (blk_cell H3.out 2).trans rfl) | (go_at_call 73; refine (impl_Sea_cells.calls (W0 : Int) (H0 : Int) A2 c2 ships (N : Int) _ (Kd.C_below HSh.out HB.out) HC2.out HCel.out).mono ?_; rintro e wl ⟨rfl, hb⟩; (try clear s0_); (try clear s1_); (try clear s2_); have n1_ := Aside0.mk (blk_below H4.out hb); have n2_ := Aside0.mk (blk_below H5.out hb); have n3_ := Aside0.mk (below_step HB.out hb); clear hb H3 H4 H5 HB; have H4 := n1_; have H5 := n2_; have HB := n3_; clear n1_ n2_ n3_) | (go_at_call 72; refine (impl_chosen.calls 114 #[.pointer (some ⟨g5, 0, none⟩), .pointer (some ⟨g4, 0, none⟩)] q (fun c => acc c && !(T.any fun x => x.f0 == c)) eg114 (N : Int) _ (pred_open HAcc.out HB.out H5.out H4.out HT.out HTl.out) HQ.out HN17.out).mono ?_; rintro e wz ⟨v10, rfl, ho, hb⟩; rw [Int.toNat_natCast] at ho; have HO := Aside0.mk (Kd.R_lower ho (below_size HB.out)); have n3_ := Aside0.mk (below_step HB.out hb); clear ho hb HB; have HB := n3_; clear n3_))
  go_ret
  exact ⟨_, rfl, HO.out, HB.out⟩
/-! ### impl_Sea_best: function 93 -/
-- EXTERNAL: by hand
-- impl_Sea_shares
-- open_calls openV sharesV agreeing PredK
def bestStep (list : List Int) (b c : Int) : Int := if b < 0 ∨ rd list c > rd list b then c else b
def bestV (list cs : List Int) : Int := cs.foldl (bestStep list) (-1)
def impl_Sea_best.f (a0_0 a0_1 : Int) (l0_2 : List Int) (l1 : List S93) : Option Int := (impl_Sea_shares.f a0_0 a0_1 l0_2 l1).bind fun s => some (bestV s.2 (openV (a0_0.toNat * a0_1.toNat) l1 fun _ => decide (s.1 > 0)))
theorem openV_in {N : Nat} {T : List S93} {acc : Int → Bool} {c : Int} (h : c ∈ openV N T acc) : 0 ≤ c ∧ c < (N : Int) := by
  have := (chosen_iff _ _ _).1 h
  exact ⟨this.1, this.2.1⟩
theorem openV_len (N : Nat) (T : List S93) (acc : Int → Bool) : (openV N T acc).length ≤ N := chosenTo_le _ N
theorem bestTo_in {N : Nat} (list cs : List Int) (h : ∀ c ∈ cs, 0 ≤ c ∧ c < (N : Int)) : ∀ j, j ≤ cs.length → -1 ≤ (cs.take j).foldl (bestStep list) (-1) ∧ (cs.take j).foldl (bestStep list) (-1) < (N : Int) := by
  intro j
  induction j with
  | zero => intro _; simp; omega
  | succ j ih =>
    intro hj
    have h1 := ih (by omega)
    have hlt : j < cs.length := by omega
    have hm := h _ (List.getElem_mem hlt)
    rw [List.take_succ_eq_append_getElem hlt, List.foldl_append, List.foldl_cons, List.foldl_nil]
    unfold bestStep at h1 ⊢
    split <;> omega
set_option maxHeartbeats 1000000 in
theorem pred_best {w : World} {g5 : Nat} {tot : Int} (h : w.heap[g5]? = some (.cells #[.int .i64 tot] 2 (0, 0))) : PredK Try.prog 113 #[.pointer (some ⟨g5, 0, none⟩)] (Kd.int .i64) (fun _ => True) (fun _ => decide (tot > 0)) w := by
  intro W x v _ hK hb
  have hv : v = .int .i64 x := by have e : [v] = [.int .i64 x] := hK; injection e
  subst hv
  have hc := (blk_cell (blk_below h hb) 0).trans rfl
  have HB := Aside0.mk (Below.refl W.heap.size W)
  clear h hb hK
  obtain ⟨b, hbb⟩ : ∃ b, decide (tot > 0) = b := ⟨_, rfl⟩
  have hb2 : decide (0 < tot) = b := hbb
  show Calls _ _ _ _ fun e w' => e = .returned (.bool (decide (tot > 0))) ∧ _
  rw [hbb]
  go_enter Try.func113, Try.ntmps113
  go_wp2_with fail
  go_ret
  exact ⟨by first | rfl | rw [hbb] | rw [hb2], HB.out⟩
set_option maxHeartbeats 8000000 in
set_option maxRecDepth 100000 in
theorem impl_Sea_best.calls (a0_0 a0_1 : Int) (A2 : Option Addr) (c2 : Nat) (ships : List Int) (A3 : Option Addr) (c3 : Nat) (T : List S93) (r : Int) (w : World) (hr0_2 : Kd.C (Kd.int .i64) w A2 ships.length ships) (hc0_2 : ships.length ≤ c2) (hr1 : Kd.C k93 w A3 T.length T) (hc1 : T.length ≤ c3) (h : impl_Sea_best.f a0_0 a0_1 ships T = some r) :
    Calls Try.prog 93 #[.agg #[.int .i64 a0_0, .int .i64 a0_1, .slice A2 ships.length c2], .slice A3 T.length c3] w fun e w' => e = .returned (.int .i64 r) ∧ Below w.heap.size w w' := by
  have eg113 : ∀ args w, (callFunc 113 args).run Try.prog w = .ok (.enter 113 args) w := enters_of Try.func113 (by kernel_rfl) rfl
  unfold impl_Sea_best.f at h
  obtain ⟨⟨tot, list⟩, hsh, h⟩ := Option.bind_eq_some_iff.1 h
  have HShf := Aside0.mk hsh
  unfold impl_Sea_shares.f at hsh
  split at hsh
  case isFalse => cases hsh
  rename_i hs
  simp only [Option.some.injEq, Prod.mk.injEq] at hsh h
  obtain ⟨hs, hsi, hTl⟩ := hs
  obtain ⟨⟨W0, rfl, hw1, hw5⟩, ⟨H0, rfl, hh1, hh5⟩, hs1, hs3⟩ := seaV_nat hs
  simp only [Int.toNat_natCast] at hsh h
  obtain ⟨N, hN⟩ : ∃ N, W0 * H0 = N := ⟨_, rfl⟩
  rw [hN] at hsh h
  have hN25 : N ≤ 25 := by rw [← hN]; exact cells_le hw5 hh5
  have hll : list.length = N := by rw [← hsh.2, sharesV_len]
  have HNN := Aside0.mk hN
  have HN25 := Aside0.mk hN25
  have HTl := Aside0.mk hTl
  have HT := Aside0.mk hr1
  have HTc := Aside0.mk hc1
  have HSh := Aside0.mk hr0_2
  have HC2 := Aside0.mk hc0_2
  obtain ⟨cs, hcs⟩ : ∃ cs, openV N T (fun _ => decide (tot > 0)) = cs := ⟨_, rfl⟩
  have hin : ∀ c ∈ cs, 0 ≤ c ∧ c < (N : Int) := fun c hc => openV_in (by rw [← hcs] at hc; exact hc)
  have hcl : cs.length ≤ N := by rw [← hcs]; exact openV_len _ _ _
  rw [hcs] at h
  have HCs := Aside0.mk hcs
  have HIn := Aside0.mk hin
  have HBt := Aside0.mk (bestTo_in list cs hin)
  have HCl := Aside0.mk (show cs.length ≤ 25 by omega)
  have HLl := Aside0.mk hll
  have HR := Aside0.mk h
  have hu28 := Try.underlying28
  clear hr0_2 hc0_2 hr1 hc1 hs hsi hTl hw1 hw5 hh1 hh5 hs1 hs3 hN hN25 hsh h hcs hin hcl hll
  go_enter Try.func93, Try.ntmps93
  go_wp2_with (first | ((with_reducible refine gate_dst (N := 2) rfl ?_); refine box_event ?hg (N := 2) ?hd (cs := #[.int .i64 (W0 : Int), .int .i64 (H0 : Int), .slice A2 ships.length c2]) (t := 28) ?hr ?_; (case hd => rfl); (case hg => rfl); (case hr => first | (go_simp; done) | (go_simp; rfl)); intro g2 hg2 w1 hbox hb; have H2 := Aside0.mk hbox; have HB := Aside0.mk hb; clear hbox hb hg2; have s0_ := (blk_cell H2.out 0).trans rfl; have s1_ := (blk_cell H2.out 1).trans rfl; have s2_ := (blk_cell H2.out 2).trans rfl) | (go_at_call 90; refine (impl_Sea_shares.calls (W0 : Int) (H0 : Int) A2 c2 ships A3 c3 T tot list _ (Kd.C_below HSh.out HB.out) HC2.out (Kd.C_below HT.out HB.out) HTc.out HShf.out).mono ?_; rintro e w3 ⟨v13, rfl, ho, hb⟩; obtain ⟨Al, cl, el⟩ := Kd.R_slice ho; subst el; have HL := Aside0.mk (Kd.R_lower ho (below_size HB.out)); (try clear s0_); (try clear s1_); (try clear s2_); clear ho; have n_ := Aside0.mk (blk_below H2.out hb); clear H2; have H2 := n_; clear n_; have n_ := Aside0.mk (below_step HB.out hb); clear HB; have HB := n_; clear n_; clear hb; have s0_ := (blk_cell H2.out 0).trans rfl; have s1_ := (blk_cell H2.out 1).trans rfl; have s2_ := (blk_cell H2.out 2).trans rfl) | ((with_reducible refine gate_dst (N := 5) rfl ?_); refine box_event ?hg (N := 5) ?hd (cs := #[.int .i64 0]) (t := 2) ?hr ?_; (case hd => rfl); (case hg => rfl); (case hr => first | (go_simp; done) | (go_simp; rfl)); intro g5 hg5 w4 hbox hb; have H5 := Aside0.mk hbox; have HG5 := Aside0.mk (show w.heap.size ≤ g5 ∧ g2 ≠ g5 by have := below_size HB.out; have := blk_lt H2.out; omega); have hlt := Aside0.mk (show ∀ k, (Value.slice Al list.length cl).ownBlock = some k → k ≠ g5 from fun k hk => by have := Kd.R_lt HL.out k hk; omega); (try clear s0_); (try clear s1_); (try clear s2_); have n_ := Aside0.mk (blk_below H2.out hb); clear H2; have H2 := n_; clear n_; have n_ := Aside0.mk (Kd.R_below HL.out hb); clear HL; have HL := n_; clear n_; have n_ := Aside0.mk (below_step HB.out hb); clear HB; have HB := n_; clear n_; clear hb hbox hg5; have s0_ := (blk_cell H2.out 0).trans rfl; have s1_ := (blk_cell H2.out 1).trans rfl; have s2_ := (blk_cell H2.out 2).trans rfl; have hz5 := (blk_cell H5.out 0).trans rfl; have hfz5 := blk_frozen H5.out 0) | ((with_reducible refine gate_store (t := 2) (p := 5) rfl ?_); refine store_event (t := 2) (p := 5) (v := .tmp 14) (w1 := (w4.setCell ⟨g5, 0, none⟩ (.int .i64 tot))) ?hg ?ho ?hn ?hr ?_; (case ho => rfl); (case hg => rfl); (case hn => rfl); (case hr => first | (go_simp; done) | (go_simp; rfl)); intro w5 hw5; have t2_ := blk_far (p := ⟨g5, 0, none⟩) H2.out HG5.out.2 (.int .i64 tot); have t5_ := blk_put H5.out 0 (.int .i64 tot) rfl; have tL_ := Kd.R_far (p := ⟨g5, 0, none⟩) (Kd.R_tight rfl HL.out) (fun k hk => hlt.out k hk.symm) (.int .i64 tot); have tB_ : Below w.heap.size w (w4.setCell ⟨g5, 0, none⟩ (.int .i64 tot)) := below_set HB.out HG5.out.1; rw [← hw5] at t2_ t5_ tL_ tB_; clear hz5 hfz5 hlt; (try clear s0_); (try clear s1_); (try clear s2_); clear H2 H5 HL HB; have H2 := Aside0.mk t2_; have H5 := Aside0.mk t5_; have HL := Aside0.mk (Kd.R_mono (ok' := fun _ => True) tL_ (fun _ _ => trivial)); have HB := Aside0.mk tB_; clear hw5 t2_ t5_ tL_ tB_; have s0_ := (blk_cell H2.out 0).trans rfl; have s1_ := (blk_cell H2.out 1).trans rfl; have s2_ := (blk_cell H2.out 2).trans rfl) | (go_at_call 95; refine (open_calls HNN.out HN25.out (q := fun _ => True) eg113 (pred_best H5.out) (fun _ _ _ => trivial) (Kd.C_below HSh.out HB.out) HC2.out (Kd.C_below HT.out HB.out) HTl.out).mono ?_; rintro e w6 ⟨v19, rfl, ho, hb⟩; rw [HCs.out] at ho; obtain ⟨Ac, cc, ec⟩ := Kd.R_slice ho; subst ec; have HC := Aside0.mk (Kd.R_lower ho (below_size HB.out)); (try clear s0_); (try clear s1_); (try clear s2_); clear ho; have n_ := Aside0.mk (Kd.R_below HL.out hb); clear HL; have HL := n_; clear n_; have n_ := Aside0.mk (below_step HB.out hb); clear HB; have HB := n_; clear n_; clear hb H2 H5))
  go_loopg [7, 21] cs.length (fun gg s7 s21 wr => ∃ j : Nat, j ≤ cs.length ∧ cs.length - j ≤ gg ∧ s7 = .int .i64 ((cs.take j).foldl (bestStep list) (-1)) ∧ s21 = .int .i64 j ∧ Aside0 (Kd.R (Kd.int .i64) 2 wr w.heap.size (fun _ => True) (.slice Al list.length cl) list) ∧ Aside0 (Kd.R (Kd.int .i64) 2 wr w.heap.size (fun _ => True) (.slice Ac cs.length cc) cs) ∧ Aside0 (Below w.heap.size w wr))
  case atStart => exact ⟨0, Nat.zero_le _, Nat.le_refl _, rfl, rfl, HL, HC, HB⟩
  case round =>
    clear HL HC HB
    obtain ⟨j, hj, hgj, rfl, rfl, HL, HC, HB⟩ := hrel
    by_cases hlt : j < cs.length
    · obtain ⟨adc, rfl, hxc⟩ := Kd.at_int (Kd.R_reads' HC.out).2.2 (j : Int) (by omega) (by omega)
      rw [Int.toNat_natCast, rd_get cs j hlt] at hxc
      have hb := HBt.out j hj
      have hcin := HIn.out _ (List.getElem_mem hlt)
      have hst : (cs.take (j + 1)).foldl (bestStep list) (-1) = bestStep list ((cs.take j).foldl (bestStep list) (-1)) cs[j] := by rw [List.take_succ_eq_append_getElem hlt, List.foldl_append, List.foldl_cons, List.foldl_nil]
      generalize cs[j] = c at hxc hcin hst
      generalize (cs.take j).foldl (bestStep list) (-1) = b at hb hst ⊢
      have HSt := Aside0.mk hst
      have q1 := decide_eq_true (show (j : Int) < (cs.length : Int) by omega)
      have q2 := decide_eq_true hlt
      have q3 := eq_true (show (j : Int) < (cs.length : Int) by omega)
      have q4 := eq_true (show (0 : Int) ≤ (j : Int) by omega)
      have q5 := eq_true hlt
      have HJm := Aside0.mk (show cs.length - (j + 1) < gk by omega)
      have HJr := Aside0.mk (show j + 1 ≤ cs.length by omega)
      have HJs := Aside0.mk (show wrap64 ((j : Int) + 1) = ((j + 1 : Nat) : Int) from wrap_one (a := j) (by have := HCl.out; omega))
      by_cases hb0 : b < 0
      · have HV := Aside0.mk (show (cs.take (j + 1)).foldl (bestStep list) (-1) = c by rw [HSt.out]; unfold bestStep; rw [if_pos (.inl hb0)])
        have p1 := decide_eq_true hb0
        have p2 := eq_true hb0
        clear hst hb hcin hj hgj hlt
        go_wp2_with fail
        go_quiet (fail)
        go_wp2_with fail
        have hbq := pw_below_drewN (Below.refl wr.heap.size wr) nq
        go_roundg (cs.length - (j + 1))
        case measure => exact HJm.out
        case rel => exact ⟨j + 1, HJr.out, Nat.le_refl _, by rw [HV.out], (by first | rfl | exact congrArg (Value.int .i64) HJs.out), ⟨Kd.R_below HL.out hbq⟩, ⟨Kd.R_below HC.out hbq⟩, ⟨below_step HB.out hbq⟩⟩
      · obtain ⟨adl, rfl, hxl⟩ := Kd.at_int (Kd.R_reads' HL.out).2.2 c hcin.1 (by rw [HLl.out]; exact hcin.2)
        obtain ⟨adl2, el2, hxb⟩ := Kd.at_int (Kd.R_reads' HL.out).2.2 b (by omega) (by rw [HLl.out]; omega)
        injection el2 with el2
        subst el2
        have p1 := decide_eq_false hb0
        have p2 := eq_false hb0
        have p3 := eq_true hcin.1
        have p4 := eq_true (show c < (list.length : Int) by rw [HLl.out]; exact hcin.2)
        have p5 := eq_true (show 0 ≤ b by omega)
        have p6 := eq_true (show b < (list.length : Int) by rw [HLl.out]; exact hb.2)
        by_cases hgt : rd list c > rd list b
        · have HV := Aside0.mk (show (cs.take (j + 1)).foldl (bestStep list) (-1) = c by rw [HSt.out]; unfold bestStep; rw [if_pos (.inr hgt)])
          have p7 := decide_eq_true hgt
          have p8 := decide_eq_true (show rd list b < rd list c from hgt)
          clear hst hb hcin hj hgj hlt
          generalize rd list c = lc at *
          generalize rd list b = lb at *
          go_wp2_with fail
          go_quiet (fail)
          go_wp2_with fail
          have hbq := pw_below_drewN (Below.refl wr.heap.size wr) nq
          go_roundg (cs.length - (j + 1))
          case measure => exact HJm.out
          case rel => exact ⟨j + 1, HJr.out, Nat.le_refl _, by rw [HV.out], (by first | rfl | exact congrArg (Value.int .i64) HJs.out), ⟨Kd.R_below HL.out hbq⟩, ⟨Kd.R_below HC.out hbq⟩, ⟨below_step HB.out hbq⟩⟩
        · have HV := Aside0.mk (show (cs.take (j + 1)).foldl (bestStep list) (-1) = b by rw [HSt.out]; unfold bestStep; rw [if_neg (by rintro (h | h); exact hb0 h; exact hgt h)])
          have p7 := decide_eq_false hgt
          have p8 := decide_eq_false (show ¬ rd list b < rd list c from hgt)
          clear hst hb hcin hj hgj hlt
          generalize rd list c = lc at *
          generalize rd list b = lb at *
          go_wp2_with fail
          go_quiet (fail)
          go_wp2_with fail
          have hbq := pw_below_drewN (Below.refl wr.heap.size wr) nq
          go_roundg (cs.length - (j + 1))
          case measure => exact HJm.out
          case rel => exact ⟨j + 1, HJr.out, Nat.le_refl _, by rw [HV.out], (by first | rfl | exact congrArg (Value.int .i64) HJs.out), ⟨Kd.R_below HL.out hbq⟩, ⟨Kd.R_below HC.out hbq⟩, ⟨below_step HB.out hbq⟩⟩
    · have hje : j = cs.length := by omega
      subst hje
      have q1 := decide_eq_false (show ¬ (cs.length : Int) < (cs.length : Int) by omega)
      go_wp2_with fail
      go_ret
      exact ⟨by first | rfl | (rw [← HR.out]; rfl), HB.out⟩
/-! ### impl_BestCell: function 51 -/
def impl_BestCell.f (k : Nat) (a0_0 : Int) (a0_1 : Int) (l0_2 : List Int) (l1 : List (S93)) : Option (Int × Int) := (impl_shotsCode.f k a0_0 a0_1 l0_2 l1).bind fun t972 => (if t972 = 0 then ((impl_Sea_best.f a0_0 a0_1 l0_2 l1).bind fun t973 => (if t973 < 0 then (some (0, 4)) else (some (t973, 0)))) else (some (0, t972)))
set_option maxHeartbeats 8000000 in
set_option maxRecDepth 100000 in
theorem impl_BestCell.calls (k : Nat) (a0_0 : Int) (a0_1 : Int) (A0_2 : Option Addr) (c0_2 : Nat) (l0_2 : List Int) (A1 : Option Addr) (c1 : Nat) (l1 : List (S93)) (r1 : Int) (r2 : Int) (w : World) (hr0_2 : Kd.C (Kd.int .i64) w A0_2 l0_2.length l0_2) (hc0_2 : l0_2.length ≤ c0_2) (hr1 : Kd.C k93 w A1 l1.length l1) (hc1 : l1.length ≤ c1) (h : impl_BestCell.f k a0_0 a0_1 l0_2 l1 = some (r1, r2)) :
  Calls Try.prog 51 #[.agg #[.int .i64 a0_0, .int .i64 a0_1, .slice A0_2 l0_2.length c0_2], .slice A1 l1.length c1] w fun e w' => e = .returned (.tuple #[.int .i64 r1, .int .i64 r2]) ∧ Below w.heap.size w w' := by
 have hu28 := Try.underlying28
 have HR0_2 := Aside0.mk hr0_2
 have HC0_2 := Aside0.mk hc0_2
 clear hr0_2 hc0_2
 have HR1 := Aside0.mk hr1
 have HC1 := Aside0.mk hc1
 clear hr1 hc1
 have HB := Aside0.mk (Below.refl w.heap.size w)
 have H : ((impl_shotsCode.f k a0_0 a0_1 l0_2 l1).bind fun t972 => (if t972 = 0 then ((impl_Sea_best.f a0_0 a0_1 l0_2 l1).bind fun t973 => (if t973 < 0 then (some (0, 4)) else (some (t973, 0)))) else (some (0, t972)))) = some (r1, r2) := h
 clear h
 replace H := Option.bind_eq_some_iff.mp H
 obtain ⟨t972, A30, H⟩ := H
 replace H : (if t972 = 0 then ((impl_Sea_best.f a0_0 a0_1 l0_2 l1).bind fun t973 => (if t973 < 0 then (some (0, 4)) else (some (t973, 0)))) else (some (0, t972))) = some (r1, r2) := H
 have A3 := Aside0.mk A30
 clear A30
 by_cases c4 : t972 = 0
 ·rw [if_pos c4] at H
  have c4b0 : (t972 == 0) = true := beq_iff_eq.mpr c4
  have c4b1 : (t972 != 0) = false := bne_eq_false_iff_eq.mpr c4
  clear c4
  replace H := Option.bind_eq_some_iff.mp H
  obtain ⟨t973, A50, H⟩ := H
  replace H : (if t973 < 0 then (some (0, 4)) else (some (t973, 0))) = some (r1, r2) := H
  have A5 := Aside0.mk A50
  clear A50
  by_cases c6 : t973 < 0
  ·rw [if_pos c6] at H
   have c6b0 : decide (t973 < 0) = true := decide_eq_true c6
   clear c6
   simp only [Option.some.injEq, Prod.mk.injEq] at H
   obtain ⟨rfl, rfl⟩ := H
   go_enter Try.func51, Try.ntmps51
   go_wp2_with (first | ((with_reducible refine gate_dst (N := 2) rfl ?_); refine box_event ?hg (N := 2) ?hd (cs := #[.int .i64 a0_0, .int .i64 a0_1, .slice A0_2 l0_2.length c0_2]) (t := 28) ?hr ?_; (case hd => rfl); (case hg => rfl); (case hr => first | (go_simp; done) | (go_simp; rfl)); intro gb971 hg w7 hbox hb; have n0_ := Aside0.mk (below_step hb_ hb); have n1_ := Aside0.mk (hbox); have n2_ := Aside0.mk ((by rw [hg]; exact (below_size hb_) : w.heap.size ≤ gb971)); have n3_ := Aside0.mk ((by rw [hg]; exact (below_size hb_) : w.heap.size ≤ gb971)); clear HB; have HB := n0_; have BK971 := n1_; have GW971 := n2_; have GE971 := n3_; clear n0_ n1_ n2_ n3_; clear hb hbox hg; have hcz8_0 : w7.cell? ⟨gb971, 0, none⟩ = some (.int .i64 a0_0) := (blk_cell BK971.out 0).trans rfl; have hcz8_1 : w7.cell? ⟨gb971, 1, none⟩ = some (.int .i64 a0_1) := (blk_cell BK971.out 1).trans rfl; have hcz8_2 : w7.cell? ⟨gb971, 2, none⟩ = some (.slice A0_2 l0_2.length c0_2) := (blk_cell BK971.out 2).trans rfl; have hfz8_0 := blk_frozen BK971.out 0; have hfz8_1 := blk_frozen BK971.out 1; have hfz8_2 := blk_frozen BK971.out 2) | ((with_reducible refine gate_callee (f := 89) rfl ?_); refine goesA_ (some 10) rfl rfl Try.func89 (by kernel_rfl) rfl #[.agg #[.int .i64 a0_0, .int .i64 a0_1, .slice A0_2 l0_2.length c0_2], .slice A1 l1.length c1] rfl ?_; (with_reducible refine (impl_shotsCode.calls k a0_0 a0_1 _ _ l0_2 _ _ l1 t972 _ ?side1 ?side2 ?side3 ?side4 A3.out).mono ?_); (case side1 => repeat (first | exact (Kd.C_below HR0_2.out HB.out) | (with_reducible refine Kd.C_alloc ?_ _) | (with_reducible refine Kd.C_drewN ?_ _) | (with_reducible refine Kd.C_drew ?_))); (case side2 => exact HC0_2.out); (case side3 => repeat (first | exact (Kd.C_below HR1.out HB.out) | (with_reducible refine Kd.C_alloc ?_ _) | (with_reducible refine Kd.C_drewN ?_ _) | (with_reducible refine Kd.C_drew ?_))); (case side4 => exact HC1.out); rintro e w9 ⟨rfl, hb⟩; refine ⟨_, rfl, ?_⟩; have n0_ := Aside0.mk (blk_below (g := gb971) (o := .cells #[.int .i64 a0_0, .int .i64 a0_1, .slice A0_2 l0_2.length c0_2] 28 (0, 0)) (by (with_reducible repeat (first | refine blk_drewN ?_ _ | refine blk_drew ?_ | refine blk_alloc ?_ _)); exact BK971.out) hb); have n1_ := Aside0.mk (below_step (by repeat (first | (with_reducible first | exact HB.out | apply below_alloc | apply pw_below_drewN | apply below_drew1 | refine below_set ?_ GE971.out) | exact HB.out)) hb); clear BK971; clear HB; have BK971 := n0_; have HB := n1_; clear n0_ n1_; (try clear hb); (try clear hb2); (try clear hk); (try clear hi); have hcz10_0 : w9.cell? ⟨gb971, 0, none⟩ = some (.int .i64 a0_0) := (blk_cell BK971.out 0).trans rfl; have hcz10_1 : w9.cell? ⟨gb971, 1, none⟩ = some (.int .i64 a0_1) := (blk_cell BK971.out 1).trans rfl; have hcz10_2 : w9.cell? ⟨gb971, 2, none⟩ = some (.slice A0_2 l0_2.length c0_2) := (blk_cell BK971.out 2).trans rfl; have hfz10_0 := blk_frozen BK971.out 0; have hfz10_1 := blk_frozen BK971.out 1; have hfz10_2 := blk_frozen BK971.out 2) | ((with_reducible refine gate_callee (f := 93) rfl ?_); refine goesA_ (some 16) rfl rfl Try.func93 (by kernel_rfl) rfl #[.agg #[.int .i64 a0_0, .int .i64 a0_1, .slice A0_2 l0_2.length c0_2], .slice A1 l1.length c1] rfl ?_; (with_reducible refine (impl_Sea_best.calls a0_0 a0_1 _ _ l0_2 _ _ l1 t973 _ ?side1 ?side2 ?side3 ?side4 A5.out).mono ?_); (case side1 => repeat (first | exact (Kd.C_below HR0_2.out HB.out) | (with_reducible refine Kd.C_alloc ?_ _) | (with_reducible refine Kd.C_drewN ?_ _) | (with_reducible refine Kd.C_drew ?_))); (case side2 => exact HC0_2.out); (case side3 => repeat (first | exact (Kd.C_below HR1.out HB.out) | (with_reducible refine Kd.C_alloc ?_ _) | (with_reducible refine Kd.C_drewN ?_ _) | (with_reducible refine Kd.C_drew ?_))); (case side4 => exact HC1.out); rintro e w11 ⟨rfl, hb⟩; refine ⟨_, rfl, ?_⟩; have n0_ := Aside0.mk (blk_below (g := gb971) (o := .cells #[.int .i64 a0_0, .int .i64 a0_1, .slice A0_2 l0_2.length c0_2] 28 (0, 0)) (by (with_reducible repeat (first | refine blk_drewN ?_ _ | refine blk_drew ?_ | refine blk_alloc ?_ _)); exact BK971.out) hb); have n1_ := Aside0.mk (below_step (by repeat (first | (with_reducible first | exact HB.out | apply below_alloc | apply pw_below_drewN | apply below_drew1 | refine below_set ?_ GE971.out) | exact HB.out)) hb); clear BK971; clear HB; have BK971 := n0_; have HB := n1_; clear n0_ n1_; (try clear hb); (try clear hb2); (try clear hk); (try clear hi)))
   go_ret2
   exact ⟨by first | rfl | (simp [errW_none, errW_some] <;> rfl) | (simp [*, errW_none, errW_some] <;> rfl), by repeat (first | (with_reducible first | exact HB.out | apply below_alloc | apply pw_below_drewN | apply below_drew1 | refine below_set ?_ GE971.out) | exact HB.out)⟩
  ·rw [if_neg c6] at H
   have c6b0 : decide (t973 < 0) = false := decide_eq_false c6
   clear c6
   simp only [Option.some.injEq, Prod.mk.injEq] at H
   obtain ⟨rfl, rfl⟩ := H
   go_enter Try.func51, Try.ntmps51
   go_wp2_with (first | ((with_reducible refine gate_dst (N := 2) rfl ?_); refine box_event ?hg (N := 2) ?hd (cs := #[.int .i64 a0_0, .int .i64 a0_1, .slice A0_2 l0_2.length c0_2]) (t := 28) ?hr ?_; (case hd => rfl); (case hg => rfl); (case hr => first | (go_simp; done) | (go_simp; rfl)); intro gb971 hg w12 hbox hb; have n0_ := Aside0.mk (below_step hb_ hb); have n1_ := Aside0.mk (hbox); have n2_ := Aside0.mk ((by rw [hg]; exact (below_size hb_) : w.heap.size ≤ gb971)); have n3_ := Aside0.mk ((by rw [hg]; exact (below_size hb_) : w.heap.size ≤ gb971)); clear HB; have HB := n0_; have BK971 := n1_; have GW971 := n2_; have GE971 := n3_; clear n0_ n1_ n2_ n3_; clear hb hbox hg; have hcz13_0 : w12.cell? ⟨gb971, 0, none⟩ = some (.int .i64 a0_0) := (blk_cell BK971.out 0).trans rfl; have hcz13_1 : w12.cell? ⟨gb971, 1, none⟩ = some (.int .i64 a0_1) := (blk_cell BK971.out 1).trans rfl; have hcz13_2 : w12.cell? ⟨gb971, 2, none⟩ = some (.slice A0_2 l0_2.length c0_2) := (blk_cell BK971.out 2).trans rfl; have hfz13_0 := blk_frozen BK971.out 0; have hfz13_1 := blk_frozen BK971.out 1; have hfz13_2 := blk_frozen BK971.out 2) | ((with_reducible refine gate_callee (f := 89) rfl ?_); refine goesA_ (some 10) rfl rfl Try.func89 (by kernel_rfl) rfl #[.agg #[.int .i64 a0_0, .int .i64 a0_1, .slice A0_2 l0_2.length c0_2], .slice A1 l1.length c1] rfl ?_; (with_reducible refine (impl_shotsCode.calls k a0_0 a0_1 _ _ l0_2 _ _ l1 t972 _ ?side1 ?side2 ?side3 ?side4 A3.out).mono ?_); (case side1 => repeat (first | exact (Kd.C_below HR0_2.out HB.out) | (with_reducible refine Kd.C_alloc ?_ _) | (with_reducible refine Kd.C_drewN ?_ _) | (with_reducible refine Kd.C_drew ?_))); (case side2 => exact HC0_2.out); (case side3 => repeat (first | exact (Kd.C_below HR1.out HB.out) | (with_reducible refine Kd.C_alloc ?_ _) | (with_reducible refine Kd.C_drewN ?_ _) | (with_reducible refine Kd.C_drew ?_))); (case side4 => exact HC1.out); rintro e w14 ⟨rfl, hb⟩; refine ⟨_, rfl, ?_⟩; have n0_ := Aside0.mk (blk_below (g := gb971) (o := .cells #[.int .i64 a0_0, .int .i64 a0_1, .slice A0_2 l0_2.length c0_2] 28 (0, 0)) (by (with_reducible repeat (first | refine blk_drewN ?_ _ | refine blk_drew ?_ | refine blk_alloc ?_ _)); exact BK971.out) hb); have n1_ := Aside0.mk (below_step (by repeat (first | (with_reducible first | exact HB.out | apply below_alloc | apply pw_below_drewN | apply below_drew1 | refine below_set ?_ GE971.out) | exact HB.out)) hb); clear BK971; clear HB; have BK971 := n0_; have HB := n1_; clear n0_ n1_; (try clear hb); (try clear hb2); (try clear hk); (try clear hi); have hcz15_0 : w14.cell? ⟨gb971, 0, none⟩ = some (.int .i64 a0_0) := (blk_cell BK971.out 0).trans rfl; have hcz15_1 : w14.cell? ⟨gb971, 1, none⟩ = some (.int .i64 a0_1) := (blk_cell BK971.out 1).trans rfl; have hcz15_2 : w14.cell? ⟨gb971, 2, none⟩ = some (.slice A0_2 l0_2.length c0_2) := (blk_cell BK971.out 2).trans rfl; have hfz15_0 := blk_frozen BK971.out 0; have hfz15_1 := blk_frozen BK971.out 1; have hfz15_2 := blk_frozen BK971.out 2) | ((with_reducible refine gate_callee (f := 93) rfl ?_); refine goesA_ (some 16) rfl rfl Try.func93 (by kernel_rfl) rfl #[.agg #[.int .i64 a0_0, .int .i64 a0_1, .slice A0_2 l0_2.length c0_2], .slice A1 l1.length c1] rfl ?_; (with_reducible refine (impl_Sea_best.calls a0_0 a0_1 _ _ l0_2 _ _ l1 t973 _ ?side1 ?side2 ?side3 ?side4 A5.out).mono ?_); (case side1 => repeat (first | exact (Kd.C_below HR0_2.out HB.out) | (with_reducible refine Kd.C_alloc ?_ _) | (with_reducible refine Kd.C_drewN ?_ _) | (with_reducible refine Kd.C_drew ?_))); (case side2 => exact HC0_2.out); (case side3 => repeat (first | exact (Kd.C_below HR1.out HB.out) | (with_reducible refine Kd.C_alloc ?_ _) | (with_reducible refine Kd.C_drewN ?_ _) | (with_reducible refine Kd.C_drew ?_))); (case side4 => exact HC1.out); rintro e w16 ⟨rfl, hb⟩; refine ⟨_, rfl, ?_⟩; have n0_ := Aside0.mk (blk_below (g := gb971) (o := .cells #[.int .i64 a0_0, .int .i64 a0_1, .slice A0_2 l0_2.length c0_2] 28 (0, 0)) (by (with_reducible repeat (first | refine blk_drewN ?_ _ | refine blk_drew ?_ | refine blk_alloc ?_ _)); exact BK971.out) hb); have n1_ := Aside0.mk (below_step (by repeat (first | (with_reducible first | exact HB.out | apply below_alloc | apply pw_below_drewN | apply below_drew1 | refine below_set ?_ GE971.out) | exact HB.out)) hb); clear BK971; clear HB; have BK971 := n0_; have HB := n1_; clear n0_ n1_; (try clear hb); (try clear hb2); (try clear hk); (try clear hi)))
   go_ret2
   exact ⟨by first | rfl | (simp [errW_none, errW_some] <;> rfl) | (simp [*, errW_none, errW_some] <;> rfl), by repeat (first | (with_reducible first | exact HB.out | apply below_alloc | apply pw_below_drewN | apply below_drew1 | refine below_set ?_ GE971.out) | exact HB.out)⟩
 ·rw [if_neg c4] at H
  have c4b0 : (t972 == 0) = false := beq_eq_false_iff_ne.mpr c4
  have c4b1 : (t972 != 0) = true := bne_iff_ne.mpr c4
  simp only [Option.some.injEq, Prod.mk.injEq] at H
  obtain ⟨rfl, rfl⟩ := H
  go_enter Try.func51, Try.ntmps51
  go_wp2_with (first | ((with_reducible refine gate_dst (N := 2) rfl ?_); refine box_event ?hg (N := 2) ?hd (cs := #[.int .i64 a0_0, .int .i64 a0_1, .slice A0_2 l0_2.length c0_2]) (t := 28) ?hr ?_; (case hd => rfl); (case hg => rfl); (case hr => first | (go_simp; done) | (go_simp; rfl)); intro gb971 hg w17 hbox hb; have n0_ := Aside0.mk (below_step hb_ hb); have n1_ := Aside0.mk (hbox); have n2_ := Aside0.mk ((by rw [hg]; exact (below_size hb_) : w.heap.size ≤ gb971)); have n3_ := Aside0.mk ((by rw [hg]; exact (below_size hb_) : w.heap.size ≤ gb971)); clear HB; have HB := n0_; have BK971 := n1_; have GW971 := n2_; have GE971 := n3_; clear n0_ n1_ n2_ n3_; clear hb hbox hg; have hcz18_0 : w17.cell? ⟨gb971, 0, none⟩ = some (.int .i64 a0_0) := (blk_cell BK971.out 0).trans rfl; have hcz18_1 : w17.cell? ⟨gb971, 1, none⟩ = some (.int .i64 a0_1) := (blk_cell BK971.out 1).trans rfl; have hcz18_2 : w17.cell? ⟨gb971, 2, none⟩ = some (.slice A0_2 l0_2.length c0_2) := (blk_cell BK971.out 2).trans rfl; have hfz18_0 := blk_frozen BK971.out 0; have hfz18_1 := blk_frozen BK971.out 1; have hfz18_2 := blk_frozen BK971.out 2) | ((with_reducible refine gate_callee (f := 89) rfl ?_); refine goesA_ (some 10) rfl rfl Try.func89 (by kernel_rfl) rfl #[.agg #[.int .i64 a0_0, .int .i64 a0_1, .slice A0_2 l0_2.length c0_2], .slice A1 l1.length c1] rfl ?_; (with_reducible refine (impl_shotsCode.calls k a0_0 a0_1 _ _ l0_2 _ _ l1 t972 _ ?side1 ?side2 ?side3 ?side4 A3.out).mono ?_); (case side1 => repeat (first | exact (Kd.C_below HR0_2.out HB.out) | (with_reducible refine Kd.C_alloc ?_ _) | (with_reducible refine Kd.C_drewN ?_ _) | (with_reducible refine Kd.C_drew ?_))); (case side2 => exact HC0_2.out); (case side3 => repeat (first | exact (Kd.C_below HR1.out HB.out) | (with_reducible refine Kd.C_alloc ?_ _) | (with_reducible refine Kd.C_drewN ?_ _) | (with_reducible refine Kd.C_drew ?_))); (case side4 => exact HC1.out); rintro e w19 ⟨rfl, hb⟩; refine ⟨_, rfl, ?_⟩; have n0_ := Aside0.mk (blk_below (g := gb971) (o := .cells #[.int .i64 a0_0, .int .i64 a0_1, .slice A0_2 l0_2.length c0_2] 28 (0, 0)) (by (with_reducible repeat (first | refine blk_drewN ?_ _ | refine blk_drew ?_ | refine blk_alloc ?_ _)); exact BK971.out) hb); have n1_ := Aside0.mk (below_step (by repeat (first | (with_reducible first | exact HB.out | apply below_alloc | apply pw_below_drewN | apply below_drew1 | refine below_set ?_ GE971.out) | exact HB.out)) hb); clear BK971; clear HB; have BK971 := n0_; have HB := n1_; clear n0_ n1_; (try clear hb); (try clear hb2); (try clear hk); (try clear hi)))
  go_ret2
  exact ⟨by first | rfl | (simp [errW_none, errW_some] <;> rfl) | (simp [*, errW_none, errW_some] <;> rfl), by repeat (first | (with_reducible first | exact HB.out | apply below_alloc | apply pw_below_drewN | apply below_drew1 | refine below_set ?_ GE971.out) | exact HB.out)⟩

end Go.Proofs.Ytiancdhpdjmacaa.F
