-- written by the session's program xp.py over the kit's print program, and by hand; texts joined by pack.py
import Derived.Test.YthmfpdkemkjpkaaKFnExactHuntFleet3
namespace Go.Proofs.Ythmfpdkemkjpkaa.F
open Go.RowKit Go.Proofs.YthmfpdkemkjpkaaW.PrintWords Go.Proofs.YthmfpdkemkjpkaaW.PrintLast Go.Proofs.YthmfpdkemkjpkaaW.PrintMore
attribute [local go_sem] max2_int min2_int max_two min_two max_three min_three max_four min_four   -- for this text's walks alone
set_option linter.unusedVariables false
set_option linter.unusedSimpArgs false

def impl_Sea_isFleet.l0 : Nat → List Int → List Int → Int → Int → Int → Int → List Int → Option (Bool)
 | 0, _, _, _, _, _, _, _ => none
 | k + 1, x1, x13, x14, x15, x390000, x390001, x390002 => if x15 < x14 then (if 0 ≤ x15 then (if x15 < (x13.length : Int) then (if x15 < (x390002.length : Int) then ((impl_Sea_placements.f x390000 x390001 x390002 (rd x390002 x15)).bind fun t392 => ((slices_Contains_int64_int64.f k t392 (rd x13 x15)).bind fun t395 => (if t395 = true then (if x15 ≤ (x1.length : Int) then ((impl_Sea_goesOn.f x390000 x390001 x390002 (x1.take (x15 : Int).toNat) (rd x13 x15)).bind fun t397 => (if t397 = true then (impl_Sea_isFleet.l0 k x1 x13 x14 (wrap64 (x15 + 1)) x390000 x390001 x390002) else (some false))) else (none)) else (some false)))) else (none)) else (none)) else (none)) else (some true)
def impl_Sea_isFleet.f (k : Nat) (a0_0 : Int) (a0_1 : Int) (l0_2 : List Int) (l1 : List Int) : Option (Bool) := if (l1.length : Int) = (l0_2.length : Int) then (impl_Sea_isFleet.l0 k l1 l1 (l1.length : Int) 0 a0_0 a0_1 l0_2) else (some false)
def impl_Sea_isFleet.T6 : Bool × List (List Nat × List Nat) := (true, [([], []), ([], []), ([1], [1]), ([], []), ([2, 3], [2, 3]), ([4], [4]), ([0, 5], [0, 5]), ([], []), ([6, 7, 6], [6, 7]), ([8], [8]), ([9, 8], [9]), ([10], [10]), ([10], [10]), ([10], [10]), ([12, 13, 10], [10, 12, 13]), ([10], [10]), ([11, 14, 15, 10, 10], [10, 11, 14, 15]), ([16, 10], [10, 16]), ([10, 17], [10, 17])])
def impl_Sea_isFleet.B6 : List Nat := [0, 0, 2, 0, 14, 30, 63, 0, 255, 511, 1023, 2047, 2047, 2047, 14335, 2047, 65535, 131071, 262143]
theorem impl_Sea_isFleet.tab6 : rtab .any (opsOf Try.f34 6) = impl_Sea_isFleet.T6 := by kernel_rfl
theorem impl_Sea_isFleet.bits6 : waitsOk impl_Sea_isFleet.T6.2 impl_Sea_isFleet.B6 = true := by kernel_rfl
set_option maxHeartbeats 8000000 in
set_option maxRecDepth 100000 in
theorem impl_Sea_isFleet.calls (k : Nat) (a0_0 : Int) (a0_1 : Int) (A0_2 : Option Addr) (c0_2 : Nat) (l0_2 : List Int) (A1 : Option Addr) (c1 : Nat) (l1 : List Int) (r : Bool) (w : World) (hr0_2 : Kd.C (Kd.int .i64) w A0_2 l0_2.length l0_2) (hc0_2 : l0_2.length ≤ c0_2) (hr1 : Kd.C (Kd.int .i64) w A1 l1.length l1) (hc1 : l1.length ≤ c1) (h : impl_Sea_isFleet.f k a0_0 a0_1 l0_2 l1 = some r) :
  Calls Try.prog 34 #[.agg #[.int .i64 a0_0, .int .i64 a0_1, .slice A0_2 l0_2.length c0_2], .slice A1 l1.length c1] w fun e w' => e = .returned (.bool r) ∧ Below w.heap.size w w' := by
 have hu28 := Try.underlying28
 have HR0_2 := Aside0.mk hr0_2
 have HC0_2 := Aside0.mk hc0_2
 clear hr0_2 hc0_2
 have HR1 := Aside0.mk hr1
 have HC1 := Aside0.mk hc1
 clear hr1 hc1
 have HB := Aside0.mk (Below.refl w.heap.size w)
 have H : (if (l1.length : Int) = (l0_2.length : Int) then (impl_Sea_isFleet.l0 k l1 l1 (l1.length : Int) 0 a0_0 a0_1 l0_2) else (some false)) = some r := h
 clear h
 by_cases c3 : (l1.length : Int) = (l0_2.length : Int)
 ·rw [if_pos c3] at H
  have c3b0 : ((l1.length : Int) == (l0_2.length : Int)) = true := beq_iff_eq.mpr c3
  have c3b1 : ((l1.length : Int) != (l0_2.length : Int)) = false := bne_eq_false_iff_eq.mpr c3
  have c3b2 : (l1.length == l0_2.length) = true := by first | simpa using c3 | (simp at c3 ⊢; omega)
  clear c3
  have H' := Aside0.mk H
  clear H
  go_enter Try.func34, Try.ntmps34
  go_wp2_with (first | ((with_reducible refine gate_dst (N := 2) rfl ?_); refine box_event ?hg (N := 2) ?hd (cs := #[.int .i64 a0_0, .int .i64 a0_1, .slice A0_2 l0_2.length c0_2]) (t := 28) ?hr ?_; (case hd => rfl); (case hg => rfl); (case hr => first | (go_simp; done) | (go_simp; rfl)); intro gb389 hg w4 hbox hb; have n0_ := Aside0.mk (bp_ hb_ hb); have n1_ := Aside0.mk (hbox); have n2_ := Aside0.mk ((by rw [hg]; exact (bz_ hb_) : w.heap.size ≤ gb389)); have n3_ := Aside0.mk ((by rw [hg]; exact (bz_ hb_) : w.heap.size ≤ gb389)); clear HB; have HB := n0_; have BK389 := n1_; have GW389 := n2_; have GE389 := n3_; clear n0_ n1_ n2_ n3_; clear hb hbox hg; have hcz5_0 : w4.cell? ⟨gb389, 0, none⟩ = some (.int .i64 a0_0) := (bc_ BK389.out 0).trans rfl; have hcz5_1 : w4.cell? ⟨gb389, 1, none⟩ = some (.int .i64 a0_1) := (bc_ BK389.out 1).trans rfl; have hcz5_2 : w4.cell? ⟨gb389, 2, none⟩ = some (.slice A0_2 l0_2.length c0_2) := (bc_ BK389.out 2).trans rfl; have hfz5_0 := bf_ BK389.out 0; have hfz5_1 := bf_ BK389.out 1; have hfz5_2 := bf_ BK389.out 2))
  go_loopg [15] k (fun kq v15 w' => ∃ (x15_1 : Int), v15 = .int .i64 x15_1 ∧ Aside0 (impl_Sea_isFleet.l0 kq l1 l1 (l1.length : Int) x15_1 a0_0 a0_1 l0_2 = some r) ∧ Aside0 (kq ≤ k) ∧ Aside0 (w'.heap[gb389]? = some (.cells #[.int .i64 a0_0, .int .i64 a0_1, (.slice A0_2 l0_2.length c0_2)] 28 (0, 0))) ∧ Aside0 (Below w.heap.size w w'))
  case atStart => exact ⟨(0), (by first | rfl | (simp; done) | (simp [*]; done)), H', ⟨Nat.le_refl _⟩, ⟨by (with_reducible repeat (first | refine bN_ ?_ _ | refine bkd_ ?_ | refine bka_ ?_ _)); exact BK389.out⟩, ⟨by repeat (first | (with_reducible first | exact HB.out | apply ba_ | apply pbN_ | apply bd1_ | refine bs_ ?_ GE389.out) | exact HB.out)⟩⟩
  case round =>
   clear H'
   (try clear c1); (try clear p2); (try clear c3); (try clear c3b0); (try clear c3b1); (try clear c3b2); (try clear hcz5_0); (try clear hcz5_1); (try clear hcz5_2); (try clear hfz5_0); (try clear hfz5_1); (try clear hfz5_2)
   obtain ⟨x15_1, rfl, HA, HK1, BK389, HB⟩ := hrel
   cases gk with
   | zero => exact absurd HA.out (by simp [impl_Sea_isFleet.l0])
   | succ k1 =>
    have H := HA.out
    clear HA
    simp only [impl_Sea_isFleet.l0] at H
    by_cases c6 : x15_1 < (l1.length : Int)
    ·rw [if_pos c6] at H
     have c6b0 : decide (x15_1 < (l1.length : Int)) = true := decide_eq_true c6
     clear c6
     by_cases c7 : 0 ≤ x15_1
     ·rw [if_pos c7] at H
      have c7b0 : decide (0 ≤ x15_1) = true := decide_eq_true c7
      clear c7
      by_cases c8 : x15_1 < (l1.length : Int)
      ·rw [if_pos c8] at H
       have c8b0 : decide (x15_1 < (l1.length : Int)) = true := decide_eq_true c8
       clear c8
       by_cases c9 : x15_1 < (l0_2.length : Int)
       ·rw [if_pos c9] at H
        have c9b0 : decide (x15_1 < (l0_2.length : Int)) = true := decide_eq_true c9
        clear c9
        replace H := Option.bind_eq_some_iff.mp H
        obtain ⟨t392, A100, H⟩ := H
        replace H : ((slices_Contains_int64_int64.f k1 t392 (rd l1 x15_1)).bind fun t395 => (if t395 = true then (if x15_1 ≤ (l1.length : Int) then ((impl_Sea_goesOn.f a0_0 a0_1 l0_2 (l1.take (x15_1 : Int).toNat) (rd l1 x15_1)).bind fun t397 => (if t397 = true then (impl_Sea_isFleet.l0 k1 l1 l1 (l1.length : Int) (wrap64 (x15_1 + 1)) a0_0 a0_1 l0_2) else (some false))) else (none)) else (some false))) = some r := H
        have A10 := Aside0.mk A100
        clear A100
        replace H := Option.bind_eq_some_iff.mp H
        obtain ⟨t395, A110, H⟩ := H
        replace H : (if t395 = true then (if x15_1 ≤ (l1.length : Int) then ((impl_Sea_goesOn.f a0_0 a0_1 l0_2 (l1.take (x15_1 : Int).toNat) (rd l1 x15_1)).bind fun t397 => (if t397 = true then (impl_Sea_isFleet.l0 k1 l1 l1 (l1.length : Int) (wrap64 (x15_1 + 1)) a0_0 a0_1 l0_2) else (some false))) else (none)) else (some false)) = some r := H
        have A11 := Aside0.mk A110
        clear A110
        by_cases c12 : t395 = true
        ·subst c12
         have H1 : (if x15_1 ≤ (l1.length : Int) then ((impl_Sea_goesOn.f a0_0 a0_1 l0_2 (l1.take (x15_1 : Int).toNat) (rd l1 x15_1)).bind fun t397 => (if t397 = true then (impl_Sea_isFleet.l0 k1 l1 l1 (l1.length : Int) (wrap64 (x15_1 + 1)) a0_0 a0_1 l0_2) else (some false))) else (none)) = some r := by rw [if_pos rfl] at H; exact H
         clear H
         have H := H1
         clear H1
         have c13b0 := eq_true (oda : 0 ≤ x15_1)
         by_cases c14 : x15_1 ≤ (l1.length : Int)
         ·rw [if_pos c14] at H
          have c14b0 := eq_true c14
          have c14b1 : decide (x15_1 ≤ (l1.length : Int)) = true := decide_eq_true c14
          clear c14
          replace H := Option.bind_eq_some_iff.mp H
          obtain ⟨t397, A150, H⟩ := H
          replace H : (if t397 = true then (impl_Sea_isFleet.l0 k1 l1 l1 (l1.length : Int) (wrap64 (x15_1 + 1)) a0_0 a0_1 l0_2) else (some false)) = some r := H
          have A15 := Aside0.mk A150
          clear A150
          by_cases c16 : t397 = true
          ·subst c16
           have H1 : (impl_Sea_isFleet.l0 k1 l1 l1 (l1.length : Int) (wrap64 (x15_1 + 1)) a0_0 a0_1 l0_2) = some r := by rw [if_pos rfl] at H; exact H
           clear H
           have H := H1
           clear H1
           have H' := Aside0.mk H
           clear H
           have p390 : 0 ≤ (x15_1 : Int) := oda
           have q390 : x15_1 < (l1.length : Int) := oda
           obtain ⟨ad390, e390, hx390_0⟩ := Kd.at_int HR1.out x15_1 p390 q390
           cases e390
           replace hx390_0 := (HB.out.cell (World.block_lt_of_cell? w _ hx390_0)).trans hx390_0
           replace p390 := eq_true p390
           replace q390 := eq_true q390
           try go_wp2
           have n0_ := Aside0.mk (bkd_ BK389.out)
           have n1_ := Aside0.mk (bd1_ HB.out)
           clear BK389
           clear HB
           have BK389 := n0_
           have HB := n1_
           clear n0_ n1_
           have p391 : 0 ≤ (x15_1 : Int) := oda
           have q391 : x15_1 < (l0_2.length : Int) := oda
           obtain ⟨ad391, e391, hx391_0⟩ := Kd.at_int HR0_2.out x15_1 p391 q391
           have hw391_0 := hx391_0
           cases e391
           replace hx391_0 := (HB.out.cell (World.block_lt_of_cell? w _ hx391_0)).trans hx391_0
           replace p391 := eq_true p391
           replace q391 := eq_true q391
           refine start_ (n := 19) (S := fun w' => w'.cell? ⟨gb389, 0, none⟩ = some (.int .i64 a0_0) ∧ w'.cell? ⟨gb389, 1, none⟩ = some (.int .i64 a0_1) ∧ w'.cell? ⟨gb389, 2, none⟩ = some (.slice (some ad391) l0_2.length c0_2) ∧ w'.cell? (ad391.add (x15_1).toNat) = some (.int .i64 (rd l0_2 x15_1))) (ds := []) #[false, false, false, false, false, false, false, false, false, false, false, false, false, false, false, false, false, false, false] (by kernel_rfl) rfl rfl ⟨(bc_ BK389.out 0).trans rfl, (bc_ BK389.out 1).trans rfl, (bc_ BK389.out 2).trans rfl, ((HB.out.cell (World.block_lt_of_cell? w _ hw391_0)).trans hw391_0)⟩ (fun hHeld => ?_); refine with_tabW impl_Sea_isFleet.tab6 impl_Sea_isFleet.bits6 (fun HT_ HW_ => ?_)
           generalize wr.drew = w17 at BK389 HB hx391_0 hHeld ⊢
           refine pure_ (i := 1) (N := some 21) (v := ?_) (a' := ?_) (flg_ 19 2) rfl rfl (any_of HT_.out (by kernel_rfl)) (fun _ _ _ h => h) (Or.inl ⟨by rfl, ?_⟩) ?_ ?_
           rotate_left; (· (intro w'; go_simp; with_reducible rfl)); rotate_left; (· (simp only [Act.put, sz_, s0_, s1_, i64_w, i32_w]; rfl))
           refine pure_ (i := 3) (N := some 23) (v := ?_) (a' := ?_) (flg_ 19 10) rfl rfl (any_of HT_.out (by kernel_rfl)) (fun _ _ _ h => h) (Or.inl ⟨by rfl, ?_⟩) ?_ ?_
           rotate_left; (· (intro w'; go_simp; with_reducible rfl)); rotate_left; (· (simp only [Act.put, sz_, s0_, s1_, i64_w, i32_w]; rfl))
           refine pure_ (i := 7) (N := some 27) (v := ?_) (a' := ?_) (flg_ 19 138) rfl rfl (any_of HT_.out (by kernel_rfl)) (fun _ _ _ h => h) (Or.inl ⟨by rfl, ?_⟩) ?_ ?_
           rotate_left; (· (intro w'; go_simp; with_reducible rfl)); rotate_left; (· (simp only [Act.put, sz_, s0_, s1_, i64_w, i32_w]; rfl))
           refine take_ (i := 0) (N := some 20) (v := ?_) (a' := ?_) (flg_ 19 139) rfl rfl (take_ofW HT_.out HW_.out (by kernel_rfl)) (fun _ _ _ h => h) (Or.inl ⟨by rfl, ?_⟩) hHeld ?_ ?_
           rotate_left; (· (rintro w' ⟨s0, s1, s2, s3⟩; go_simp; with_reducible rfl)); rotate_left; (· (simp only [Act.put, sz_, s0_, s1_, i64_w, i32_w]; rfl))
           refine take_ (i := 2) (N := some 22) (v := ?_) (a' := ?_) (flg_ 19 143) rfl rfl (take_ofW HT_.out HW_.out (by kernel_rfl)) (fun _ _ _ h => h) (Or.inl ⟨by rfl, ?_⟩) hHeld ?_ ?_
           rotate_left; (· (rintro w' ⟨s0, s1, s2, s3⟩; go_simp; with_reducible rfl)); rotate_left; (· (simp only [Act.put, sz_, s0_, s1_, i64_w, i32_w]; rfl))
           refine pure_ (i := 4) (N := some 24) (v := ?_) (a' := ?_) (flg_ 19 159) rfl rfl (any_of HT_.out (by kernel_rfl)) (fun _ _ _ h => h) (Or.inl ⟨by rfl, ?_⟩) ?_ ?_
           rotate_left; (· (intro w'; go_simp; with_reducible rfl)); rotate_left; (· (simp only [Act.put, sz_, s0_, s1_, i64_w, i32_w]; rfl))
           refine take_ (i := 5) (N := some 25) (v := ?_) (a' := ?_) (flg_ 19 191) rfl rfl (take_ofW HT_.out HW_.out (by kernel_rfl)) (fun _ _ _ h => h) (Or.inl ⟨by rfl, ?_⟩) hHeld ?_ ?_
           rotate_left; (· (rintro w' ⟨s0, s1, s2, s3⟩; go_simp; with_reducible rfl)); rotate_left; (· (simp only [Act.put, sz_, s0_, s1_, i64_w, i32_w]; rfl))
           refine one_ (i := 6) (N := some 26) (flg_ 19 255) rfl rfl (one_of HT_.out (by kernel_rfl)) (by decide) (fun K hK => ?_)
           refine goes_ Try.func49 (by kernel_rfl) rfl #[.agg #[.int .i64 a0_0, .int .i64 a0_1, .slice (some ad391) l0_2.length c0_2], .int .i64 (rd l0_2 x15_1)] (by rfl) rfl rfl (by (try simp only [List.map_toArray, List.map_cons, List.map_nil]); first | done | rfl | (simp only [List.length_drop, List.length_take]; rfl)) ?_
           with_reducible refine (impl_Sea_placements.calls a0_0 a0_1 _ _ l0_2 (rd l0_2 x15_1) t392 _ ?side1 ?side2 A10.out).mono ?_
           (case side1 => repeat (first | exact (Kd.C_below HR0_2.out HB.out) | (with_reducible refine Kd.C_alloc ?_ _) | (with_reducible refine Kd.C_drewN ?_ _) | (with_reducible refine Kd.C_drew ?_)))
           (case side2 => exact HC0_2.out)
           rintro e w18 ⟨v393, rfl, ho0, hb⟩
           refine ⟨_, rfl, ?_⟩
           have n0_ := Aside0.mk (Kd.R_lower ho0 (bz_ (by repeat (first | (with_reducible first | exact HB.out | apply ba_ | apply pbN_ | apply bd1_ | refine bs_ ?_ GE389.out) | exact HB.out))))
           have n1_ := Aside0.mk (bb_ (g := gb389) (o := .cells #[.int .i64 a0_0, .int .i64 a0_1, .slice (some ad391) l0_2.length c0_2] 28 (0, 0)) (by (with_reducible repeat (first | refine bN_ ?_ _ | refine bkd_ ?_ | refine bka_ ?_ _)); exact BK389.out) hb)
           have n2_ := Aside0.mk (bp_ (by repeat (first | (with_reducible first | exact HB.out | apply ba_ | apply pbN_ | apply bd1_ | refine bs_ ?_ GE389.out) | exact HB.out)) hb)
           clear BK389
           clear HB
           have HO394 := n0_
           have BK389 := n1_
           have HB := n2_
           clear n0_ n1_ n2_
           (try clear hb)
           (try clear hb2)
           (try clear hk)
           (try clear hi)
           (try clear ho0)
           obtain ⟨Ao19, co19, eo19⟩ := Kd.R_slice HO394.out
           (first | subst eo19 | (injection eo19 with f1_ f2_ f3_; have f4_ := f1_.symm; have f5_ := f3_.symm; clear f1_ f2_ f3_; subst f4_; subst f5_))
           refine hK.out _ _ ⟨(bc_ BK389.out 0).trans rfl, (bc_ BK389.out 1).trans rfl, (bc_ BK389.out 2).trans rfl, ((HB.out.cell (World.block_lt_of_cell? w _ hw391_0)).trans hw391_0)⟩ (fun hHeld => ?_)
           clear hK K
           refine norm_ (a' := ?_) ?_ ?_
           rotate_left
           ·show Act.put _ (some 26) _ = _
            simp only [Act.put, sz_, s0_, s1_, i64_w, i32_w]
            rfl
           refine one_ (i := 8) (N := some 28) (flg_ 19 511) rfl rfl (one_of HT_.out (by kernel_rfl)) (by decide) (fun K hK => ?_)
           refine goes_ Try.func48 (by kernel_rfl) rfl #[.slice Ao19 t392.length co19, .int .i64 (rd l1 x15_1)] (by rfl) rfl rfl (by (try simp only [List.map_toArray, List.map_cons, List.map_nil]); first | done | rfl | (simp only [List.length_drop, List.length_take]; rfl)) ?_
           with_reducible refine (slices_Contains_int64_int64.calls k1 _ _ t392 (rd l1 x15_1) true _ ?side1 ?side2 A11.out).mono ?_
           (case side1 => repeat (first | exact (Kd.R_reads' HO394.out).2.2 | (with_reducible refine Kd.C_alloc ?_ _) | (with_reducible refine Kd.C_drewN ?_ _) | (with_reducible refine Kd.C_drew ?_)))
           (case side2 => exact (Kd.R_reads' HO394.out).2.1)
           rintro e w' ⟨rfl, ⟨nd, rfl⟩⟩
           refine ⟨_, rfl, ?_⟩
           obtain ⟨i020, hi020, _, hsz20, _⟩ := info_parts info2
           obtain ⟨hcut20, hA20, hC20⟩ := print_take_of (P := Try.prog) (Value.int .i64) 0 22 2 .i64 Try.underlying22 hi020 hsz20 (some ad390) c1 l1 x15_1 (oda) (oda) HC1.out
           have HR396 := Aside0.mk (Kd.C_of_reads (h1 := fun _ => rfl) (hA20 _ (Kd.reads_of_C HR1.out)))
           have HC396 := Aside0.mk hC20
           clear hA20 hC20 hi020 hsz20
           refine hK.out _ _ ⟨(bc_ BK389.out 0).trans rfl, (bc_ BK389.out 1).trans rfl, (bc_ BK389.out 2).trans rfl, ((HB.out.cell (World.block_lt_of_cell? w _ hw391_0)).trans hw391_0)⟩ (fun hHeld => ?_)
           clear hK K
           refine norm_ (a' := ?_) ?_ ?_
           rotate_left
           ·show Act.put _ (some 28) _ = _
            simp only [Act.put, sz_, s0_, s1_, i64_w, i32_w]
            rfl
           refine pure_ (i := 9) (N := some 29) (v := ?_) (a' := ?_) (flg_ 19 1023) rfl rfl (any_of HT_.out (by kernel_rfl)) (fun _ _ _ h => h) (Or.inl ⟨by rfl, ?_⟩) ?_ ?_
           rotate_left; (· (intro w'; go_simp; with_reducible rfl)); rotate_left; (· (simp only [Act.put, sz_, s0_, s1_, i64_w, i32_w]; rfl))
           refine pure_ (i := 10) (N := some 30) (v := ?_) (a' := ?_) (flg_ 19 2047) rfl rfl (any_of HT_.out (by kernel_rfl)) (fun _ _ _ h => h) (Or.inl ⟨by rfl, ?_⟩) ?_ ?_
           rotate_left; (· (intro w'; go_simp; with_reducible rfl)); rotate_left; (· (simp only [Act.put, sz_, s0_, s1_, i64_w, i32_w]; rfl))
           refine pure_ (i := 12) (N := some 32) (v := ?_) (a' := ?_) (flg_ 19 6143) rfl rfl (any_of HT_.out (by kernel_rfl)) (fun _ _ _ h => h) (Or.inl ⟨by rfl, ?_⟩) ?_ ?_
           rotate_left; (· (intro w'; go_simp; with_reducible rfl)); rotate_left; (· (simp only [Act.put, sz_, s0_, s1_, i64_w, i32_w]; rfl))
           refine pure_ (i := 13) (N := some 33) (v := ?_) (a' := ?_) (flg_ 19 14335) rfl rfl (any_of HT_.out (by kernel_rfl)) (fun _ _ _ h => h) (Or.inl ⟨by rfl, ?_⟩) ?_ ?_
           rotate_left; (· (intro w'; go_simp; with_reducible rfl)); rotate_left; (· (simp only [Act.put, sz_, s0_, s1_, i64_w, i32_w]; rfl))
           refine pure_ (i := 14) (N := some 34) (v := ?_) (a' := ?_) (flg_ 19 30719) rfl rfl (any_of HT_.out (by kernel_rfl)) (fun _ _ _ h => h) (Or.inl ⟨by rfl, ?_⟩) ?_ ?_
           rotate_left; (· (intro w'; go_simp; with_reducible rfl)); rotate_left; (· (simp only [Act.put, sz_, s0_, s1_, i64_w, i32_w]; rfl))
           refine pure_ (i := 15) (N := some 35) (v := ?_) (a' := ?_) (flg_ 19 63487) rfl rfl (any_of HT_.out (by kernel_rfl)) (fun _ _ _ h => h) (Or.inl ⟨by rfl, ?_⟩) ?_ ?_
           rotate_left; (· (intro w'; go_simp; with_reducible rfl)); rotate_left; (· (simp only [Act.put, sz_, s0_, s1_, i64_w, i32_w]; rfl))
           refine take_ (i := 11) (N := some 31) (v := ?_) (a' := ?_) (flg_ 19 65535) rfl rfl (take_ofW HT_.out HW_.out (by kernel_rfl)) (fun _ _ _ h => h) (Or.inl ⟨by rfl, ?_⟩) hHeld ?_ ?_
           rotate_left; (· (rintro w' ⟨s0, s1, s2, s3⟩; go_simp; with_reducible rfl)); rotate_left; (· (simp only [Act.put, sz_, s0_, s1_, i64_w, i32_w]; rfl))
           refine one_ (i := 16) (N := some 36) (flg_ 19 131071) rfl rfl (one_of HT_.out (by kernel_rfl)) (by decide) (fun K hK => ?_)
           refine goes_ Try.func50 (by kernel_rfl) rfl #[.agg #[.int .i64 a0_0, .int .i64 a0_1, .slice (some ad391) l0_2.length c0_2], .slice (some ad390) (l1.take (x15_1 : Int).toNat).length c1, .int .i64 (rd l1 x15_1)] (by rfl) rfl rfl (by (try simp only [List.map_toArray, List.map_cons, List.map_nil]); first | done | (rw [show (l1.take (x15_1 : Int).toNat).length = x15_1.toNat from (by rw [List.length_take]; have h_ : (x15_1 : Int) ≤ (l1.length : Int) := oda; omega)] <;> rfl) | rfl | (simp only [List.length_drop, List.length_take]; rfl)) ?_
           with_reducible refine (impl_Sea_goesOn.calls a0_0 a0_1 _ _ l0_2 _ _ (l1.take (x15_1 : Int).toNat) (rd l1 x15_1) true _ ?side1 ?side2 ?side3 ?side4 A15.out).mono ?_
           (case side1 => repeat (first | exact (Kd.C_below HR0_2.out (by repeat (first | (with_reducible first | exact HB.out | apply ba_ | apply pbN_ | apply bd1_ | refine bs_ ?_ GE389.out) | exact HB.out))) | (with_reducible refine Kd.C_alloc ?_ _) | (with_reducible refine Kd.C_drewN ?_ _) | (with_reducible refine Kd.C_drew ?_)))
           (case side2 => exact HC0_2.out)
           (case side3 => repeat (first | exact (Kd.C_below HR396.out (by repeat (first | (with_reducible first | exact HB.out | apply ba_ | apply pbN_ | apply bd1_ | refine bs_ ?_ GE389.out) | exact HB.out))) | (with_reducible refine Kd.C_alloc ?_ _) | (with_reducible refine Kd.C_drewN ?_ _) | (with_reducible refine Kd.C_drew ?_)))
           (case side4 => exact HC396.out)
           rintro e w21 ⟨rfl, hb⟩
           refine ⟨_, rfl, ?_⟩
           have n0_ := Aside0.mk (Kd.R_below (by (with_reducible repeat (first | apply Kd.R_alloc | apply Kd.R_drewN | apply Kd.R_drew)); exact HO394.out) hb)
           have n1_ := Aside0.mk (bb_ (g := gb389) (o := .cells #[.int .i64 a0_0, .int .i64 a0_1, .slice (some ad391) l0_2.length c0_2] 28 (0, 0)) (by (with_reducible repeat (first | refine bN_ ?_ _ | refine bkd_ ?_ | refine bka_ ?_ _)); exact BK389.out) hb)
           have n2_ := Aside0.mk (bp_ (by repeat (first | (with_reducible first | exact HB.out | apply ba_ | apply pbN_ | apply bd1_ | refine bs_ ?_ GE389.out) | exact HB.out)) hb)
           clear HO394
           clear BK389
           clear HB
           have HO394 := n0_
           have BK389 := n1_
           have HB := n2_
           clear n0_ n1_ n2_
           (try clear hb)
           (try clear hb2)
           (try clear hk)
           (try clear hi)
           refine hK.out _ _ ⟨(bc_ BK389.out 0).trans rfl, (bc_ BK389.out 1).trans rfl, (bc_ BK389.out 2).trans rfl, ((HB.out.cell (World.block_lt_of_cell? w _ hw391_0)).trans hw391_0)⟩ (fun hHeld => ?_)
           clear hK K
           refine norm_ (a' := ?_) ?_ ?_
           rotate_left
           ·show Act.put _ (some 36) _ = _
            simp only [Act.put, sz_, s0_, s1_, i64_w, i32_w]
            rfl
           refine pure_ (i := 17) (N := some 37) (v := ?_) (a' := ?_) (flg_ 19 262143) rfl rfl (any_of HT_.out (by kernel_rfl)) (fun _ _ _ h => h) (Or.inl ⟨by rfl, ?_⟩) ?_ ?_
           rotate_left; (· (intro w'; go_simp; with_reducible rfl)); rotate_left; (· (simp only [Act.put, sz_, s0_, s1_, i64_w, i32_w]; rfl))
           refine pure_ (i := 18) (N := some 38) (v := ?_) (a' := ?_) (flg_ 19 524287) rfl rfl (any_of HT_.out (by kernel_rfl)) (fun _ _ _ h => h) (Or.inl ⟨by rfl, ?_⟩) ?_ ?_
           rotate_left; (· (intro w'; go_simp; with_reducible rfl)); rotate_left; (· (simp only [Act.put, sz_, s0_, s1_, i64_w, i32_w]; rfl))
           refine done_ (done_of HT_.out (by kernel_rfl)) ?_
           try go_wp2
           go_roundg k1
           case measure => have := HK1.out; omega
           case rel => exact ⟨(wrap64 (x15_1 + 1)), (by first | rfl | (simp; done) | (simp [*]; done)), H', ⟨by have := HK1.out; omega⟩, ⟨by (with_reducible repeat (first | refine bN_ ?_ _ | refine bkd_ ?_ | refine bka_ ?_ _)); exact BK389.out⟩, ⟨by repeat (first | (with_reducible first | exact HB.out | apply ba_ | apply pbN_ | apply bd1_ | refine bs_ ?_ GE389.out) | exact HB.out)⟩⟩
          ·replace c16 := Bool.eq_false_iff.mpr c16
           subst c16
           have H1 : (some false) = some r := by rw [if_neg (show ¬ (false = true) by decide)] at H; exact H
           clear H
           have H := H1
           clear H1
           obtain rfl := Option.some.inj H
           have p390 : 0 ≤ (x15_1 : Int) := oda
           have q390 : x15_1 < (l1.length : Int) := oda
           obtain ⟨ad390, e390, hx390_0⟩ := Kd.at_int HR1.out x15_1 p390 q390
           cases e390
           replace hx390_0 := (HB.out.cell (World.block_lt_of_cell? w _ hx390_0)).trans hx390_0
           replace p390 := eq_true p390
           replace q390 := eq_true q390
           try go_wp2
           have n0_ := Aside0.mk (bkd_ BK389.out)
           have n1_ := Aside0.mk (bd1_ HB.out)
           clear BK389
           clear HB
           have BK389 := n0_
           have HB := n1_
           clear n0_ n1_
           have p391 : 0 ≤ (x15_1 : Int) := oda
           have q391 : x15_1 < (l0_2.length : Int) := oda
           obtain ⟨ad391, e391, hx391_0⟩ := Kd.at_int HR0_2.out x15_1 p391 q391
           have hw391_0 := hx391_0
           cases e391
           replace hx391_0 := (HB.out.cell (World.block_lt_of_cell? w _ hx391_0)).trans hx391_0
           replace p391 := eq_true p391
           replace q391 := eq_true q391
           refine start_ (n := 19) (S := fun w' => w'.cell? ⟨gb389, 0, none⟩ = some (.int .i64 a0_0) ∧ w'.cell? ⟨gb389, 1, none⟩ = some (.int .i64 a0_1) ∧ w'.cell? ⟨gb389, 2, none⟩ = some (.slice (some ad391) l0_2.length c0_2) ∧ w'.cell? (ad391.add (x15_1).toNat) = some (.int .i64 (rd l0_2 x15_1))) (ds := []) #[false, false, false, false, false, false, false, false, false, false, false, false, false, false, false, false, false, false, false] (by kernel_rfl) rfl rfl ⟨(bc_ BK389.out 0).trans rfl, (bc_ BK389.out 1).trans rfl, (bc_ BK389.out 2).trans rfl, ((HB.out.cell (World.block_lt_of_cell? w _ hw391_0)).trans hw391_0)⟩ (fun hHeld => ?_); refine with_tabW impl_Sea_isFleet.tab6 impl_Sea_isFleet.bits6 (fun HT_ HW_ => ?_)
           generalize wr.drew = w22 at BK389 HB hx391_0 hHeld ⊢
           refine pure_ (i := 1) (N := some 21) (v := ?_) (a' := ?_) (flg_ 19 2) rfl rfl (any_of HT_.out (by kernel_rfl)) (fun _ _ _ h => h) (Or.inl ⟨by rfl, ?_⟩) ?_ ?_
           rotate_left; (· (intro w'; go_simp; with_reducible rfl)); rotate_left; (· (simp only [Act.put, sz_, s0_, s1_, i64_w, i32_w]; rfl))
           refine pure_ (i := 3) (N := some 23) (v := ?_) (a' := ?_) (flg_ 19 10) rfl rfl (any_of HT_.out (by kernel_rfl)) (fun _ _ _ h => h) (Or.inl ⟨by rfl, ?_⟩) ?_ ?_
           rotate_left; (· (intro w'; go_simp; with_reducible rfl)); rotate_left; (· (simp only [Act.put, sz_, s0_, s1_, i64_w, i32_w]; rfl))
           refine pure_ (i := 7) (N := some 27) (v := ?_) (a' := ?_) (flg_ 19 138) rfl rfl (any_of HT_.out (by kernel_rfl)) (fun _ _ _ h => h) (Or.inl ⟨by rfl, ?_⟩) ?_ ?_
           rotate_left; (· (intro w'; go_simp; with_reducible rfl)); rotate_left; (· (simp only [Act.put, sz_, s0_, s1_, i64_w, i32_w]; rfl))
           refine take_ (i := 0) (N := some 20) (v := ?_) (a' := ?_) (flg_ 19 139) rfl rfl (take_ofW HT_.out HW_.out (by kernel_rfl)) (fun _ _ _ h => h) (Or.inl ⟨by rfl, ?_⟩) hHeld ?_ ?_
           rotate_left; (· (rintro w' ⟨s0, s1, s2, s3⟩; go_simp; with_reducible rfl)); rotate_left; (· (simp only [Act.put, sz_, s0_, s1_, i64_w, i32_w]; rfl))
           refine take_ (i := 2) (N := some 22) (v := ?_) (a' := ?_) (flg_ 19 143) rfl rfl (take_ofW HT_.out HW_.out (by kernel_rfl)) (fun _ _ _ h => h) (Or.inl ⟨by rfl, ?_⟩) hHeld ?_ ?_
           rotate_left; (· (rintro w' ⟨s0, s1, s2, s3⟩; go_simp; with_reducible rfl)); rotate_left; (· (simp only [Act.put, sz_, s0_, s1_, i64_w, i32_w]; rfl))
           refine pure_ (i := 4) (N := some 24) (v := ?_) (a' := ?_) (flg_ 19 159) rfl rfl (any_of HT_.out (by kernel_rfl)) (fun _ _ _ h => h) (Or.inl ⟨by rfl, ?_⟩) ?_ ?_
           rotate_left; (· (intro w'; go_simp; with_reducible rfl)); rotate_left; (· (simp only [Act.put, sz_, s0_, s1_, i64_w, i32_w]; rfl))
           refine take_ (i := 5) (N := some 25) (v := ?_) (a' := ?_) (flg_ 19 191) rfl rfl (take_ofW HT_.out HW_.out (by kernel_rfl)) (fun _ _ _ h => h) (Or.inl ⟨by rfl, ?_⟩) hHeld ?_ ?_
           rotate_left; (· (rintro w' ⟨s0, s1, s2, s3⟩; go_simp; with_reducible rfl)); rotate_left; (· (simp only [Act.put, sz_, s0_, s1_, i64_w, i32_w]; rfl))
           refine one_ (i := 6) (N := some 26) (flg_ 19 255) rfl rfl (one_of HT_.out (by kernel_rfl)) (by decide) (fun K hK => ?_)
           refine goes_ Try.func49 (by kernel_rfl) rfl #[.agg #[.int .i64 a0_0, .int .i64 a0_1, .slice (some ad391) l0_2.length c0_2], .int .i64 (rd l0_2 x15_1)] (by rfl) rfl rfl (by (try simp only [List.map_toArray, List.map_cons, List.map_nil]); first | done | rfl | (simp only [List.length_drop, List.length_take]; rfl)) ?_
           with_reducible refine (impl_Sea_placements.calls a0_0 a0_1 _ _ l0_2 (rd l0_2 x15_1) t392 _ ?side1 ?side2 A10.out).mono ?_
           (case side1 => repeat (first | exact (Kd.C_below HR0_2.out HB.out) | (with_reducible refine Kd.C_alloc ?_ _) | (with_reducible refine Kd.C_drewN ?_ _) | (with_reducible refine Kd.C_drew ?_)))
           (case side2 => exact HC0_2.out)
           rintro e w23 ⟨v393, rfl, ho0, hb⟩
           refine ⟨_, rfl, ?_⟩
           have n0_ := Aside0.mk (Kd.R_lower ho0 (bz_ (by repeat (first | (with_reducible first | exact HB.out | apply ba_ | apply pbN_ | apply bd1_ | refine bs_ ?_ GE389.out) | exact HB.out))))
           have n1_ := Aside0.mk (bb_ (g := gb389) (o := .cells #[.int .i64 a0_0, .int .i64 a0_1, .slice (some ad391) l0_2.length c0_2] 28 (0, 0)) (by (with_reducible repeat (first | refine bN_ ?_ _ | refine bkd_ ?_ | refine bka_ ?_ _)); exact BK389.out) hb)
           have n2_ := Aside0.mk (bp_ (by repeat (first | (with_reducible first | exact HB.out | apply ba_ | apply pbN_ | apply bd1_ | refine bs_ ?_ GE389.out) | exact HB.out)) hb)
           clear BK389
           clear HB
           have HO394 := n0_
           have BK389 := n1_
           have HB := n2_
           clear n0_ n1_ n2_
           (try clear hb)
           (try clear hb2)
           (try clear hk)
           (try clear hi)
           (try clear ho0)
           obtain ⟨Ao24, co24, eo24⟩ := Kd.R_slice HO394.out
           (first | subst eo24 | (injection eo24 with f1_ f2_ f3_; have f4_ := f1_.symm; have f5_ := f3_.symm; clear f1_ f2_ f3_; subst f4_; subst f5_))
           refine hK.out _ _ ⟨(bc_ BK389.out 0).trans rfl, (bc_ BK389.out 1).trans rfl, (bc_ BK389.out 2).trans rfl, ((HB.out.cell (World.block_lt_of_cell? w _ hw391_0)).trans hw391_0)⟩ (fun hHeld => ?_)
           clear hK K
           refine norm_ (a' := ?_) ?_ ?_
           rotate_left
           ·show Act.put _ (some 26) _ = _
            simp only [Act.put, sz_, s0_, s1_, i64_w, i32_w]
            rfl
           refine one_ (i := 8) (N := some 28) (flg_ 19 511) rfl rfl (one_of HT_.out (by kernel_rfl)) (by decide) (fun K hK => ?_)
           refine goes_ Try.func48 (by kernel_rfl) rfl #[.slice Ao24 t392.length co24, .int .i64 (rd l1 x15_1)] (by rfl) rfl rfl (by (try simp only [List.map_toArray, List.map_cons, List.map_nil]); first | done | rfl | (simp only [List.length_drop, List.length_take]; rfl)) ?_
           with_reducible refine (slices_Contains_int64_int64.calls k1 _ _ t392 (rd l1 x15_1) true _ ?side1 ?side2 A11.out).mono ?_
           (case side1 => repeat (first | exact (Kd.R_reads' HO394.out).2.2 | (with_reducible refine Kd.C_alloc ?_ _) | (with_reducible refine Kd.C_drewN ?_ _) | (with_reducible refine Kd.C_drew ?_)))
           (case side2 => exact (Kd.R_reads' HO394.out).2.1)
           rintro e w' ⟨rfl, ⟨nd, rfl⟩⟩
           refine ⟨_, rfl, ?_⟩
           obtain ⟨i025, hi025, _, hsz25, _⟩ := info_parts info2
           obtain ⟨hcut25, hA25, hC25⟩ := print_take_of (P := Try.prog) (Value.int .i64) 0 22 2 .i64 Try.underlying22 hi025 hsz25 (some ad390) c1 l1 x15_1 (oda) (oda) HC1.out
           have HR396 := Aside0.mk (Kd.C_of_reads (h1 := fun _ => rfl) (hA25 _ (Kd.reads_of_C HR1.out)))
           have HC396 := Aside0.mk hC25
           clear hA25 hC25 hi025 hsz25
           refine hK.out _ _ ⟨(bc_ BK389.out 0).trans rfl, (bc_ BK389.out 1).trans rfl, (bc_ BK389.out 2).trans rfl, ((HB.out.cell (World.block_lt_of_cell? w _ hw391_0)).trans hw391_0)⟩ (fun hHeld => ?_)
           clear hK K
           refine norm_ (a' := ?_) ?_ ?_
           rotate_left
           ·show Act.put _ (some 28) _ = _
            simp only [Act.put, sz_, s0_, s1_, i64_w, i32_w]
            rfl
           refine pure_ (i := 9) (N := some 29) (v := ?_) (a' := ?_) (flg_ 19 1023) rfl rfl (any_of HT_.out (by kernel_rfl)) (fun _ _ _ h => h) (Or.inl ⟨by rfl, ?_⟩) ?_ ?_
           rotate_left; (· (intro w'; go_simp; with_reducible rfl)); rotate_left; (· (simp only [Act.put, sz_, s0_, s1_, i64_w, i32_w]; rfl))
           refine pure_ (i := 10) (N := some 30) (v := ?_) (a' := ?_) (flg_ 19 2047) rfl rfl (any_of HT_.out (by kernel_rfl)) (fun _ _ _ h => h) (Or.inl ⟨by rfl, ?_⟩) ?_ ?_
           rotate_left; (· (intro w'; go_simp; with_reducible rfl)); rotate_left; (· (simp only [Act.put, sz_, s0_, s1_, i64_w, i32_w]; rfl))
           refine pure_ (i := 12) (N := some 32) (v := ?_) (a' := ?_) (flg_ 19 6143) rfl rfl (any_of HT_.out (by kernel_rfl)) (fun _ _ _ h => h) (Or.inl ⟨by rfl, ?_⟩) ?_ ?_
           rotate_left; (· (intro w'; go_simp; with_reducible rfl)); rotate_left; (· (simp only [Act.put, sz_, s0_, s1_, i64_w, i32_w]; rfl))
           refine pure_ (i := 13) (N := some 33) (v := ?_) (a' := ?_) (flg_ 19 14335) rfl rfl (any_of HT_.out (by kernel_rfl)) (fun _ _ _ h => h) (Or.inl ⟨by rfl, ?_⟩) ?_ ?_
           rotate_left; (· (intro w'; go_simp; with_reducible rfl)); rotate_left; (· (simp only [Act.put, sz_, s0_, s1_, i64_w, i32_w]; rfl))
           refine pure_ (i := 14) (N := some 34) (v := ?_) (a' := ?_) (flg_ 19 30719) rfl rfl (any_of HT_.out (by kernel_rfl)) (fun _ _ _ h => h) (Or.inl ⟨by rfl, ?_⟩) ?_ ?_
           rotate_left; (· (intro w'; go_simp; with_reducible rfl)); rotate_left; (· (simp only [Act.put, sz_, s0_, s1_, i64_w, i32_w]; rfl))
           refine pure_ (i := 15) (N := some 35) (v := ?_) (a' := ?_) (flg_ 19 63487) rfl rfl (any_of HT_.out (by kernel_rfl)) (fun _ _ _ h => h) (Or.inl ⟨by rfl, ?_⟩) ?_ ?_
           rotate_left; (· (intro w'; go_simp; with_reducible rfl)); rotate_left; (· (simp only [Act.put, sz_, s0_, s1_, i64_w, i32_w]; rfl))
           refine take_ (i := 11) (N := some 31) (v := ?_) (a' := ?_) (flg_ 19 65535) rfl rfl (take_ofW HT_.out HW_.out (by kernel_rfl)) (fun _ _ _ h => h) (Or.inl ⟨by rfl, ?_⟩) hHeld ?_ ?_
           rotate_left; (· (rintro w' ⟨s0, s1, s2, s3⟩; go_simp; with_reducible rfl)); rotate_left; (· (simp only [Act.put, sz_, s0_, s1_, i64_w, i32_w]; rfl))
           refine one_ (i := 16) (N := some 36) (flg_ 19 131071) rfl rfl (one_of HT_.out (by kernel_rfl)) (by decide) (fun K hK => ?_)
           refine goes_ Try.func50 (by kernel_rfl) rfl #[.agg #[.int .i64 a0_0, .int .i64 a0_1, .slice (some ad391) l0_2.length c0_2], .slice (some ad390) (l1.take (x15_1 : Int).toNat).length c1, .int .i64 (rd l1 x15_1)] (by rfl) rfl rfl (by (try simp only [List.map_toArray, List.map_cons, List.map_nil]); first | done | (rw [show (l1.take (x15_1 : Int).toNat).length = x15_1.toNat from (by rw [List.length_take]; have h_ : (x15_1 : Int) ≤ (l1.length : Int) := oda; omega)] <;> rfl) | rfl | (simp only [List.length_drop, List.length_take]; rfl)) ?_
           with_reducible refine (impl_Sea_goesOn.calls a0_0 a0_1 _ _ l0_2 _ _ (l1.take (x15_1 : Int).toNat) (rd l1 x15_1) false _ ?side1 ?side2 ?side3 ?side4 A15.out).mono ?_
           (case side1 => repeat (first | exact (Kd.C_below HR0_2.out (by repeat (first | (with_reducible first | exact HB.out | apply ba_ | apply pbN_ | apply bd1_ | refine bs_ ?_ GE389.out) | exact HB.out))) | (with_reducible refine Kd.C_alloc ?_ _) | (with_reducible refine Kd.C_drewN ?_ _) | (with_reducible refine Kd.C_drew ?_)))
           (case side2 => exact HC0_2.out)
           (case side3 => repeat (first | exact (Kd.C_below HR396.out (by repeat (first | (with_reducible first | exact HB.out | apply ba_ | apply pbN_ | apply bd1_ | refine bs_ ?_ GE389.out) | exact HB.out))) | (with_reducible refine Kd.C_alloc ?_ _) | (with_reducible refine Kd.C_drewN ?_ _) | (with_reducible refine Kd.C_drew ?_)))
           (case side4 => exact HC396.out)
           rintro e w26 ⟨rfl, hb⟩
           refine ⟨_, rfl, ?_⟩
           have n0_ := Aside0.mk (Kd.R_below (by (with_reducible repeat (first | apply Kd.R_alloc | apply Kd.R_drewN | apply Kd.R_drew)); exact HO394.out) hb)
           have n1_ := Aside0.mk (bb_ (g := gb389) (o := .cells #[.int .i64 a0_0, .int .i64 a0_1, .slice (some ad391) l0_2.length c0_2] 28 (0, 0)) (by (with_reducible repeat (first | refine bN_ ?_ _ | refine bkd_ ?_ | refine bka_ ?_ _)); exact BK389.out) hb)
           have n2_ := Aside0.mk (bp_ (by repeat (first | (with_reducible first | exact HB.out | apply ba_ | apply pbN_ | apply bd1_ | refine bs_ ?_ GE389.out) | exact HB.out)) hb)
           clear HO394
           clear BK389
           clear HB
           have HO394 := n0_
           have BK389 := n1_
           have HB := n2_
           clear n0_ n1_ n2_
           (try clear hb)
           (try clear hb2)
           (try clear hk)
           (try clear hi)
           refine hK.out _ _ ⟨(bc_ BK389.out 0).trans rfl, (bc_ BK389.out 1).trans rfl, (bc_ BK389.out 2).trans rfl, ((HB.out.cell (World.block_lt_of_cell? w _ hw391_0)).trans hw391_0)⟩ (fun hHeld => ?_)
           clear hK K
           refine norm_ (a' := ?_) ?_ ?_
           rotate_left
           ·show Act.put _ (some 36) _ = _
            simp only [Act.put, sz_, s0_, s1_, i64_w, i32_w]
            rfl
           refine pure_ (i := 17) (N := some 37) (v := ?_) (a' := ?_) (flg_ 19 262143) rfl rfl (any_of HT_.out (by kernel_rfl)) (fun _ _ _ h => h) (Or.inl ⟨by rfl, ?_⟩) ?_ ?_
           rotate_left; (· (intro w'; go_simp; with_reducible rfl)); rotate_left; (· (simp only [Act.put, sz_, s0_, s1_, i64_w, i32_w]; rfl))
           refine pure_ (i := 18) (N := some 38) (v := ?_) (a' := ?_) (flg_ 19 524287) rfl rfl (any_of HT_.out (by kernel_rfl)) (fun _ _ _ h => h) (Or.inl ⟨by rfl, ?_⟩) ?_ ?_
           rotate_left; (· (intro w'; go_simp; with_reducible rfl)); rotate_left; (· (simp only [Act.put, sz_, s0_, s1_, i64_w, i32_w]; rfl))
           refine done_ (done_of HT_.out (by kernel_rfl)) ?_
           try go_wp2
           go_ret
           exact ⟨by first | rfl | (simp [errW_none, errW_some] <;> rfl) | (simp [*, errW_none, errW_some] <;> rfl), by repeat (first | (with_reducible first | exact HB.out | apply ba_ | apply pbN_ | apply bd1_ | refine bs_ ?_ GE389.out) | exact HB.out)⟩
         ·rw [if_neg c14] at H
          exact absurd H (by simp)
        ·replace c12 := Bool.eq_false_iff.mpr c12
         subst c12
         have H1 : (some false) = some r := by rw [if_neg (show ¬ (false = true) by decide)] at H; exact H
         clear H
         have H := H1
         clear H1
         obtain rfl := Option.some.inj H
         have p390 : 0 ≤ (x15_1 : Int) := oda
         have q390 : x15_1 < (l1.length : Int) := oda
         obtain ⟨ad390, e390, hx390_0⟩ := Kd.at_int HR1.out x15_1 p390 q390
         cases e390
         replace hx390_0 := (HB.out.cell (World.block_lt_of_cell? w _ hx390_0)).trans hx390_0
         replace p390 := eq_true p390
         replace q390 := eq_true q390
         try go_wp2
         have n0_ := Aside0.mk (bkd_ BK389.out)
         have n1_ := Aside0.mk (bd1_ HB.out)
         clear BK389
         clear HB
         have BK389 := n0_
         have HB := n1_
         clear n0_ n1_
         have p391 : 0 ≤ (x15_1 : Int) := oda
         have q391 : x15_1 < (l0_2.length : Int) := oda
         obtain ⟨ad391, e391, hx391_0⟩ := Kd.at_int HR0_2.out x15_1 p391 q391
         have hw391_0 := hx391_0
         cases e391
         replace hx391_0 := (HB.out.cell (World.block_lt_of_cell? w _ hx391_0)).trans hx391_0
         replace p391 := eq_true p391
         replace q391 := eq_true q391
         refine start_ (n := 19) (S := fun w' => w'.cell? ⟨gb389, 0, none⟩ = some (.int .i64 a0_0) ∧ w'.cell? ⟨gb389, 1, none⟩ = some (.int .i64 a0_1) ∧ w'.cell? ⟨gb389, 2, none⟩ = some (.slice (some ad391) l0_2.length c0_2) ∧ w'.cell? (ad391.add (x15_1).toNat) = some (.int .i64 (rd l0_2 x15_1))) (ds := []) #[false, false, false, false, false, false, false, false, false, false, false, false, false, false, false, false, false, false, false] (by kernel_rfl) rfl rfl ⟨(bc_ BK389.out 0).trans rfl, (bc_ BK389.out 1).trans rfl, (bc_ BK389.out 2).trans rfl, ((HB.out.cell (World.block_lt_of_cell? w _ hw391_0)).trans hw391_0)⟩ (fun hHeld => ?_); refine with_tabW impl_Sea_isFleet.tab6 impl_Sea_isFleet.bits6 (fun HT_ HW_ => ?_)
         generalize wr.drew = w27 at BK389 HB hx391_0 hHeld ⊢
         refine pure_ (i := 1) (N := some 21) (v := ?_) (a' := ?_) (flg_ 19 2) rfl rfl (any_of HT_.out (by kernel_rfl)) (fun _ _ _ h => h) (Or.inl ⟨by rfl, ?_⟩) ?_ ?_
         rotate_left; (· (intro w'; go_simp; with_reducible rfl)); rotate_left; (· (simp only [Act.put, sz_, s0_, s1_, i64_w, i32_w]; rfl))
         refine pure_ (i := 3) (N := some 23) (v := ?_) (a' := ?_) (flg_ 19 10) rfl rfl (any_of HT_.out (by kernel_rfl)) (fun _ _ _ h => h) (Or.inl ⟨by rfl, ?_⟩) ?_ ?_
         rotate_left; (· (intro w'; go_simp; with_reducible rfl)); rotate_left; (· (simp only [Act.put, sz_, s0_, s1_, i64_w, i32_w]; rfl))
         refine pure_ (i := 7) (N := some 27) (v := ?_) (a' := ?_) (flg_ 19 138) rfl rfl (any_of HT_.out (by kernel_rfl)) (fun _ _ _ h => h) (Or.inl ⟨by rfl, ?_⟩) ?_ ?_
         rotate_left; (· (intro w'; go_simp; with_reducible rfl)); rotate_left; (· (simp only [Act.put, sz_, s0_, s1_, i64_w, i32_w]; rfl))
         refine take_ (i := 0) (N := some 20) (v := ?_) (a' := ?_) (flg_ 19 139) rfl rfl (take_ofW HT_.out HW_.out (by kernel_rfl)) (fun _ _ _ h => h) (Or.inl ⟨by rfl, ?_⟩) hHeld ?_ ?_
         rotate_left; (· (rintro w' ⟨s0, s1, s2, s3⟩; go_simp; with_reducible rfl)); rotate_left; (· (simp only [Act.put, sz_, s0_, s1_, i64_w, i32_w]; rfl))
         refine take_ (i := 2) (N := some 22) (v := ?_) (a' := ?_) (flg_ 19 143) rfl rfl (take_ofW HT_.out HW_.out (by kernel_rfl)) (fun _ _ _ h => h) (Or.inl ⟨by rfl, ?_⟩) hHeld ?_ ?_
         rotate_left; (· (rintro w' ⟨s0, s1, s2, s3⟩; go_simp; with_reducible rfl)); rotate_left; (· (simp only [Act.put, sz_, s0_, s1_, i64_w, i32_w]; rfl))
         refine pure_ (i := 4) (N := some 24) (v := ?_) (a' := ?_) (flg_ 19 159) rfl rfl (any_of HT_.out (by kernel_rfl)) (fun _ _ _ h => h) (Or.inl ⟨by rfl, ?_⟩) ?_ ?_
         rotate_left; (· (intro w'; go_simp; with_reducible rfl)); rotate_left; (· (simp only [Act.put, sz_, s0_, s1_, i64_w, i32_w]; rfl))
         refine take_ (i := 5) (N := some 25) (v := ?_) (a' := ?_) (flg_ 19 191) rfl rfl (take_ofW HT_.out HW_.out (by kernel_rfl)) (fun _ _ _ h => h) (Or.inl ⟨by rfl, ?_⟩) hHeld ?_ ?_
         rotate_left; (· (rintro w' ⟨s0, s1, s2, s3⟩; go_simp; with_reducible rfl)); rotate_left; (· (simp only [Act.put, sz_, s0_, s1_, i64_w, i32_w]; rfl))
         refine one_ (i := 6) (N := some 26) (flg_ 19 255) rfl rfl (one_of HT_.out (by kernel_rfl)) (by decide) (fun K hK => ?_)
         refine goes_ Try.func49 (by kernel_rfl) rfl #[.agg #[.int .i64 a0_0, .int .i64 a0_1, .slice (some ad391) l0_2.length c0_2], .int .i64 (rd l0_2 x15_1)] (by rfl) rfl rfl (by (try simp only [List.map_toArray, List.map_cons, List.map_nil]); first | done | rfl | (simp only [List.length_drop, List.length_take]; rfl)) ?_
         with_reducible refine (impl_Sea_placements.calls a0_0 a0_1 _ _ l0_2 (rd l0_2 x15_1) t392 _ ?side1 ?side2 A10.out).mono ?_
         (case side1 => repeat (first | exact (Kd.C_below HR0_2.out HB.out) | (with_reducible refine Kd.C_alloc ?_ _) | (with_reducible refine Kd.C_drewN ?_ _) | (with_reducible refine Kd.C_drew ?_)))
         (case side2 => exact HC0_2.out)
         rintro e w28 ⟨v393, rfl, ho0, hb⟩
         refine ⟨_, rfl, ?_⟩
         have n0_ := Aside0.mk (Kd.R_lower ho0 (bz_ (by repeat (first | (with_reducible first | exact HB.out | apply ba_ | apply pbN_ | apply bd1_ | refine bs_ ?_ GE389.out) | exact HB.out))))
         have n1_ := Aside0.mk (bb_ (g := gb389) (o := .cells #[.int .i64 a0_0, .int .i64 a0_1, .slice (some ad391) l0_2.length c0_2] 28 (0, 0)) (by (with_reducible repeat (first | refine bN_ ?_ _ | refine bkd_ ?_ | refine bka_ ?_ _)); exact BK389.out) hb)
         have n2_ := Aside0.mk (bp_ (by repeat (first | (with_reducible first | exact HB.out | apply ba_ | apply pbN_ | apply bd1_ | refine bs_ ?_ GE389.out) | exact HB.out)) hb)
         clear BK389
         clear HB
         have HO394 := n0_
         have BK389 := n1_
         have HB := n2_
         clear n0_ n1_ n2_
         (try clear hb)
         (try clear hb2)
         (try clear hk)
         (try clear hi)
         (try clear ho0)
         obtain ⟨Ao29, co29, eo29⟩ := Kd.R_slice HO394.out
         (first | subst eo29 | (injection eo29 with f1_ f2_ f3_; have f4_ := f1_.symm; have f5_ := f3_.symm; clear f1_ f2_ f3_; subst f4_; subst f5_))
         refine hK.out _ _ ⟨(bc_ BK389.out 0).trans rfl, (bc_ BK389.out 1).trans rfl, (bc_ BK389.out 2).trans rfl, ((HB.out.cell (World.block_lt_of_cell? w _ hw391_0)).trans hw391_0)⟩ (fun hHeld => ?_)
         clear hK K
         refine norm_ (a' := ?_) ?_ ?_
         rotate_left
         ·show Act.put _ (some 26) _ = _
          simp only [Act.put, sz_, s0_, s1_, i64_w, i32_w]
          rfl
         refine one_ (i := 8) (N := some 28) (flg_ 19 511) rfl rfl (one_of HT_.out (by kernel_rfl)) (by decide) (fun K hK => ?_)
         refine goes_ Try.func48 (by kernel_rfl) rfl #[.slice Ao29 t392.length co29, .int .i64 (rd l1 x15_1)] (by rfl) rfl rfl (by (try simp only [List.map_toArray, List.map_cons, List.map_nil]); first | done | rfl | (simp only [List.length_drop, List.length_take]; rfl)) ?_
         with_reducible refine (slices_Contains_int64_int64.calls k1 _ _ t392 (rd l1 x15_1) false _ ?side1 ?side2 A11.out).mono ?_
         (case side1 => repeat (first | exact (Kd.R_reads' HO394.out).2.2 | (with_reducible refine Kd.C_alloc ?_ _) | (with_reducible refine Kd.C_drewN ?_ _) | (with_reducible refine Kd.C_drew ?_)))
         (case side2 => exact (Kd.R_reads' HO394.out).2.1)
         rintro e w' ⟨rfl, ⟨nd, rfl⟩⟩
         refine ⟨_, rfl, ?_⟩
         refine hK.out _ _ ⟨(bc_ BK389.out 0).trans rfl, (bc_ BK389.out 1).trans rfl, (bc_ BK389.out 2).trans rfl, ((HB.out.cell (World.block_lt_of_cell? w _ hw391_0)).trans hw391_0)⟩ (fun hHeld => ?_)
         clear hK K
         refine norm_ (a' := ?_) ?_ ?_
         rotate_left
         ·show Act.put _ (some 28) _ = _
          simp only [Act.put, sz_, s0_, s1_, i64_w, i32_w]
          rfl
         refine pure_ (i := 9) (N := some 29) (v := ?_) (a' := ?_) (flg_ 19 1023) rfl rfl (any_of HT_.out (by kernel_rfl)) (fun _ _ _ h => h) (Or.inl ⟨by rfl, ?_⟩) ?_ ?_
         rotate_left; (· (intro w'; go_simp; with_reducible rfl)); rotate_left; (· (simp only [Act.put, sz_, s0_, s1_, i64_w, i32_w]; rfl))
         refine pure_ (i := 10) (N := some 30) (v := ?_) (a' := ?_) (flg_ 19 2047) rfl rfl (any_of HT_.out (by kernel_rfl)) (fun _ _ _ h => h) (Or.inl ⟨by rfl, ?_⟩) ?_ ?_
         rotate_left; (· (intro w'; go_simp; with_reducible rfl)); rotate_left; (· (simp only [Act.put, sz_, s0_, s1_, i64_w, i32_w]; rfl))
         refine pure_ (i := 11) (N := some 31) (v := undef) (a' := ?_) (flg_ 19 4095) rfl rfl (any_of HT_.out (by kernel_rfl)) (fun _ _ _ h => h) (Or.inr ⟨by rfl, rfl⟩) ?_ ?_
         rotate_left
         ·simp only [Act.put, sz_, s0_, s1_, i64_w, i32_w]
          rfl
         refine pure_ (i := 12) (N := some 32) (v := undef) (a' := ?_) (flg_ 19 8191) rfl rfl (any_of HT_.out (by kernel_rfl)) (fun _ _ _ h => h) (Or.inr ⟨by rfl, rfl⟩) ?_ ?_
         rotate_left
         ·simp only [Act.put, sz_, s0_, s1_, i64_w, i32_w]
          rfl
         refine pure_ (i := 13) (N := some 33) (v := undef) (a' := ?_) (flg_ 19 16383) rfl rfl (any_of HT_.out (by kernel_rfl)) (fun _ _ _ h => h) (Or.inr ⟨by rfl, rfl⟩) ?_ ?_
         rotate_left
         ·simp only [Act.put, sz_, s0_, s1_, i64_w, i32_w]
          rfl
         refine pure_ (i := 14) (N := some 34) (v := undef) (a' := ?_) (flg_ 19 32767) rfl rfl (any_of HT_.out (by kernel_rfl)) (fun _ _ _ h => h) (Or.inr ⟨by rfl, rfl⟩) ?_ ?_
         rotate_left
         ·simp only [Act.put, sz_, s0_, s1_, i64_w, i32_w]
          rfl
         refine pure_ (i := 15) (N := some 35) (v := undef) (a' := ?_) (flg_ 19 65535) rfl rfl (any_of HT_.out (by kernel_rfl)) (fun _ _ _ h => h) (Or.inr ⟨by rfl, rfl⟩) ?_ ?_
         rotate_left
         ·simp only [Act.put, sz_, s0_, s1_, i64_w, i32_w]
          rfl
         refine pure_ (i := 16) (N := some 36) (v := undef) (a' := ?_) (flg_ 19 131071) rfl rfl (any_of HT_.out (by kernel_rfl)) (fun _ _ _ h => h) (Or.inr ⟨by rfl, rfl⟩) ?_ ?_
         rotate_left
         ·simp only [Act.put, sz_, s0_, s1_, i64_w, i32_w]
          rfl
         refine pure_ (i := 17) (N := some 37) (v := undef) (a' := ?_) (flg_ 19 262143) rfl rfl (any_of HT_.out (by kernel_rfl)) (fun _ _ _ h => h) (Or.inr ⟨by rfl, rfl⟩) ?_ ?_
         rotate_left
         ·simp only [Act.put, sz_, s0_, s1_, i64_w, i32_w]
          rfl
         refine pure_ (i := 18) (N := some 38) (v := ?_) (a' := ?_) (flg_ 19 524287) rfl rfl (any_of HT_.out (by kernel_rfl)) (fun _ _ _ h => h) (Or.inl ⟨by rfl, ?_⟩) ?_ ?_
         rotate_left; (· (intro w'; go_simp; with_reducible rfl)); rotate_left; (· (simp only [Act.put, sz_, s0_, s1_, i64_w, i32_w]; rfl))
         refine done_ (done_of HT_.out (by kernel_rfl)) ?_
         try go_wp2
         go_ret
         exact ⟨by first | rfl | (simp [errW_none, errW_some] <;> rfl) | (simp [*, errW_none, errW_some] <;> rfl), by repeat (first | (with_reducible first | exact HB.out | apply ba_ | apply pbN_ | apply bd1_ | refine bs_ ?_ GE389.out) | exact HB.out)⟩
       ·rw [if_neg c9] at H
        exact absurd H (by simp)
      ·rw [if_neg c8] at H
       exact absurd H (by simp)
     ·rw [if_neg c7] at H
      exact absurd H (by simp)
    ·rw [if_neg c6] at H
     have c6b0 : decide (x15_1 < (l1.length : Int)) = false := decide_eq_false c6
     clear c6
     obtain rfl := Option.some.inj H
     go_wp2
     go_ret
     exact ⟨by first | rfl | (simp [errW_none, errW_some] <;> rfl) | (simp [*, errW_none, errW_some] <;> rfl), by repeat (first | (with_reducible first | exact HB.out | apply ba_ | apply pbN_ | apply bd1_ | refine bs_ ?_ GE389.out) | exact HB.out)⟩
 ·rw [if_neg c3] at H
  have c3b0 : ((l1.length : Int) == (l0_2.length : Int)) = false := beq_eq_false_iff_ne.mpr c3
  have c3b1 : ((l1.length : Int) != (l0_2.length : Int)) = true := bne_iff_ne.mpr c3
  have c3b2 : (l1.length == l0_2.length) = false := by first | simpa using c3 | (simp at c3 ⊢; omega)
  obtain rfl := Option.some.inj H
  go_enter Try.func34, Try.ntmps34
  go_wp2_with (first | ((with_reducible refine gate_dst (N := 2) rfl ?_); refine box_event ?hg (N := 2) ?hd (cs := #[.int .i64 a0_0, .int .i64 a0_1, .slice A0_2 l0_2.length c0_2]) (t := 28) ?hr ?_; (case hd => rfl); (case hg => rfl); (case hr => first | (go_simp; done) | (go_simp; rfl)); intro gb389 hg w30 hbox hb; have n0_ := Aside0.mk (bp_ hb_ hb); have n1_ := Aside0.mk (hbox); have n2_ := Aside0.mk ((by rw [hg]; exact (bz_ hb_) : w.heap.size ≤ gb389)); have n3_ := Aside0.mk ((by rw [hg]; exact (bz_ hb_) : w.heap.size ≤ gb389)); clear HB; have HB := n0_; have BK389 := n1_; have GW389 := n2_; have GE389 := n3_; clear n0_ n1_ n2_ n3_; clear hb hbox hg; have hcz31_0 : w30.cell? ⟨gb389, 0, none⟩ = some (.int .i64 a0_0) := (bc_ BK389.out 0).trans rfl; have hcz31_1 : w30.cell? ⟨gb389, 1, none⟩ = some (.int .i64 a0_1) := (bc_ BK389.out 1).trans rfl; have hcz31_2 : w30.cell? ⟨gb389, 2, none⟩ = some (.slice A0_2 l0_2.length c0_2) := (bc_ BK389.out 2).trans rfl; have hfz31_0 := bf_ BK389.out 0; have hfz31_1 := bf_ BK389.out 1; have hfz31_2 := bf_ BK389.out 2))
  go_ret
  exact ⟨by first | rfl | (simp [errW_none, errW_some] <;> rfl) | (simp [*, errW_none, errW_some] <;> rfl), by repeat (first | (with_reducible first | exact HB.out | apply ba_ | apply pbN_ | apply bd1_ | refine bs_ ?_ GE389.out) | exact HB.out)⟩
def Try.sortedZ_ren : Go.Shelf.Ren := ⟨fun | 6 => 52 | 8 => 69 | 9 => 65 | 11 => 75 | 13 => 73 | 12 => 72 | 23 => 85 | 24 => 86 | 14 => 76 | 15 => 77 | 16 => 78 | 17 => 79 | 18 => 80 | 19 => 81 | 20 => 82 | 21 => 83 | 22 => 84 | 25 => 87 | 26 => 88 | 27 => 89 | 28 => 90 | 29 => 91 | 30 => 92 | 31 => 93 | n => n, fun | 26 => 2 | 28 => 78 | 24 => 22 | 0 => 0 | 3 => 3 | 37 => 91 | 48 => 104 | 50 => 42 | 4 => 4 | 40 => 96 | 39 => 95 | 45 => 101 | 5 => 5 | 9 => 9 | 51 => 106 | 55 => 110 | 57 => 112 | 58 => 113 | 33 => 68 | n => n, fun | n => n⟩
theorem Try.sortedZ : Go.Proofs.SlLaysZI.n6 Try.prog Try.sortedZ_ren := {
 mixed := by kernel_rfl
 f6 := ⟨Try.f52.name, by decide, Try.func52.trans (congrArg some (by kernel_rfl))⟩
 f8 := ⟨Try.f69.name, by decide, Try.func69.trans (congrArg some (by kernel_rfl))⟩
 f11 := ⟨Try.f75.name, by decide, Try.func75.trans (congrArg some (by kernel_rfl))⟩
 t0 := Try.underlying0
 a0 := Try.isAgg0
 z0 := Try.sizeOf0
 v0 := Try.zeroValue0
 t24 := Try.underlying22
 a24 := Try.isAgg22
 z24 := Try.sizeOf22
 v24 := Try.zeroValue22
 t26 := Try.underlying2
 a26 := Try.isAgg2
 z26 := Try.sizeOf2
 v26 := Try.zeroValue2
 t28 := Try.underlying78
 a28 := Try.isAgg78
 z28 := Try.sizeOf78
 v28 := Try.zeroValue78
 i26 := by kernel_rfl }

set_option maxRecDepth 100000 in
set_option maxHeartbeats 2000000 in
theorem values_gives (n l g c : Nat) (hn : 1 ≤ n) (A : Option Addr) (xs : List Int) (w : World) (hbox : w.heap[g]? = some (.cells #[.slice A xs.length c] 22 (0, 0))) (hC : Kd.C (Kd.int .i64) w A xs.length xs)
    (J : List Int → World → Prop) (hJ : ∀ pre W1, J pre W1 → Below w.heap.size w W1)
    (hY : ∀ pre x W1, J pre W1 → pre.length < xs.length → YieldAt Fence.wide (n - 1) Try.prog l #[encZ x] W1 fun e W' => e = .returned (.bool true) ∧ J (pre ++ [x]) W' ∧ KeepsWalks W1 W')
    (W : World) (h0 : J [] W) :
    CallsIn Fence.wide n Try.prog 70 #[.func (.yield l) #[] #[], .pointer (some ⟨g, 0, none⟩)] W fun e W' => (∃ v, e = .returned v) ∧ J xs W' := by
  have hb := hJ _ _ h0
  have hc0 : W.cell? ⟨g, 0, none⟩ = some (.slice A xs.length c) := (bc_ (bb_ hbox hb) 0).trans rfl
  have HC := Aside0.mk hC
  have HJ := Aside0.mk hJ
  have HY := Aside0.mk hY
  have HJ0 := Aside0.mk h0
  clear hb hC hJ hY h0 hbox
  refine callsIn_of_wp Try.func70 rfl trivial ?_ rfl
  simp only [Try.ntmps70, List.size_toArray, List.length_cons, List.length_nil, Nat.reduceAdd, Nat.reduceSub, Array.replicate_succ, Array.replicate_zero, List.push_toArray, List.append_toArray, List.nil_append, List.cons_append]
  gi_wp2
  gi_loopg [7] xs.length (fun gg s7 wr => ∃ i : Nat, i ≤ xs.length ∧ xs.length - i ≤ gg ∧ s7 = .int .i64 i ∧ Aside0 (J (xs.take i) wr))
  case atStart => exact ⟨0, by omega, by omega, rfl, HJ0⟩
  case round =>
    obtain ⟨i, hi, hgi, rfl, HJi⟩ := hrel
    by_cases hlt : i < xs.length
    · have hlen := HC.out.2.1
      obtain ⟨ad, rfl, hx⟩ := Kd.at_int (Kd.C_below HC.out (HJ.out _ _ HJi.out)) (i : Int) (by omega) (by omega)
      rw [Int.toNat_natCast] at hx
      have hy := HY.out (xs.take i) (rd xs (i : Int)) wr HJi.out (by rw [List.length_take]; omega)
      have hstep : xs.take i ++ [rd xs (i : Int)] = xs.take (i + 1) := by rw [rd_get xs i hlt, List.take_succ_eq_append_getElem hlt]
      rw [hstep] at hy
      have q1 := decide_eq_true (show (i : Int) < (xs.length : Int) by omega)
      have q2 := decide_eq_true hlt
      have q3 := eq_true (show (i : Int) < (xs.length : Int) by omega)
      have q4 := eq_true (show (0 : Int) ≤ (i : Int) by omega)
      have q5 := eq_true hlt
      clear hstep
      obtain ⟨fn, tmps, assign, body, hyr, hR⟩ := hy
      gi_wp2
      refine hR.mono ?_
      rintro e W3 ⟨rfl, hJ3, hk3⟩
      gi_wp2
      go_roundg (xs.length - (i + 1))
      case measure => omega
      case rel => exact ⟨i + 1, by omega, by omega, by go_num, ⟨hJ3⟩⟩
    · have hie : i = xs.length := by omega
      subst hie
      have q1 := decide_eq_false (show ¬ (xs.length : Int) < (xs.length : Int) by omega)
      gi_wp2
      go_end0
      exact ⟨⟨_, rfl⟩, by have := HJi.out; rwa [List.take_length] at this⟩
set_option maxRecDepth 100000 in
set_option maxHeartbeats 4000000 in
theorem appendVals (n gv c : Nat) (hn : 2 ≤ n) (A : Option Addr) (xs : List Int) (hN : xs.length ≤ maxLen) (hNb : xs.length * 8 ≤ 140737488355328) (w : World) (hbox : w.heap[gv]? = some (.cells #[.slice A xs.length c] 22 (0, 0))) (hC : Kd.C (Kd.int .i64) w A xs.length xs) :
    CallsIn Fence.wide n Try.prog 75 #[.slice none 0 0, .func (.func 70) #[] #[.pointer (some ⟨gv, 0, none⟩)]] w fun e w' => ∃ v : Value, e = .returned v ∧ w'.ownsRow w.heap.size 2 1 v xs.length (xs.map encZ) ∧ Below w.heap.size w w' := by
  have eg : ∀ args w, (callFunc 70 args).run Try.prog w = .ok (.enter 70 args) w := enters_of Try.func70 (by kernel_rfl) rfl
  refine callsIn_of_wp_marks Try.func75 rfl trivial ?_ rfl
  simp only [Try.ntmps75, List.size_toArray, List.length_cons, List.length_nil, Nat.reduceAdd, Nat.reduceSub, Array.replicate_succ, Array.replicate_zero, List.push_toArray, List.append_toArray, List.nil_append, List.cons_append]
  gi_wp2
  refine wpIn_rangeFunc ?_
  intro fn hfn
  rw [show Fence.wide.round = none from rfl]
  obtain ⟨W0, hW0⟩ : ∃ W0, w.alloc (.cells #[.slice none 0 0] 22) = W0 := ⟨_, rfl⟩
  have hs0 : W0.heap.size = w.heap.size + 1 := by rw [← hW0]; simp
  have hv0 : W0.heap[w.heap.size]? = some (.cells #[.slice none 0 0] 22 (0, 0)) := by rw [← hW0]; exact World.alloc_heap_new w _
  have hb0 : Below w.heap.size w W0 := by rw [← hW0]; exact (Below.refl _ w).alloc (Nat.le_refl _) _
  rw [hW0]
  obtain ⟨sv, hsv⟩ : ∃ sv : Value, Value.func (.func 70) #[] #[.pointer (some ⟨gv, 0, none⟩)] = sv := ⟨_, rfl⟩
  obtain ⟨W1, hW1⟩ : ∃ W1, (W0.alloc (.deferred (some []))).alloc (.loop (AnyZI.apRec Try.sortedZ_ren fn sv w.heap.size W0.heap.size .ready none)) = W1 := ⟨_, rfl⟩
  have hold : ∀ k, k < W0.heap.size → W1.heap[k]? = W0.heap[k]? := fun k hk => by
    rw [← hW1]; exact (Below.heap_alloc _ _ k (by simp; omega)).trans (Below.heap_alloc _ _ k hk)
  have hb1 : Below w.heap.size w W1 := by rw [← hW1]; exact (hb0.alloc hb0.size _).alloc (by have := hb0.size; simp; omega) _
  have hs1 : W1.heap.size = W0.heap.size + 2 := by rw [← hW1]; simp
  have hM : AnyZI.ApAt Try.sortedZ_ren w fn sv w.heap.size (W0.heap.size + 1) W0.heap.size [] W1 :=
    ⟨⟨_, (hold w.heap.size (by omega)).trans hv0, ⟨rfl, .inl ⟨rfl, rfl⟩⟩, by simp⟩,
     by rw [← hW1]; have := World.alloc_heap_new (W0.alloc (.deferred (some []))) (.loop (AnyZI.apRec Try.sortedZ_ren fn sv w.heap.size W0.heap.size .ready none)); rwa [World.size_alloc] at this,
     by rw [← hW1]; exact (Below.heap_alloc _ _ _ (by simp)).trans (World.alloc_heap_new W0 _), hb1⟩
  refine ⟨W0.heap.size + 1, [{ target := .collected W0.heap.size, args := #[] }], W1, { target := .fn (.func 70) #[.pointer (some ⟨gv, 0, none⟩)], args := #[.func (.yield (W0.heap.size + 1)) #[] #[]] }, W1, 70,
    #[.func (.yield (W0.heap.size + 1)) #[] #[]] ++ #[.pointer (some ⟨gv, 0, none⟩)], W1, ?_, ?_, ?_, ?_, fun _ => by omega, ?_⟩
  · rw [← hW1, ← hsv]; exact run_enterLoop_outer _ _ _ _ _
  · simp [resolve, go_sem]
  · intro f' hf'; simp [Target.leads] at hf'; subst hf'; trivial
  · simp [invoke, go_sem, eg]
  · refine (values_gives (n - 1) (W0.heap.size + 1) gv c (by omega) A xs w hbox hC (AnyZI.ApAt Try.sortedZ_ren w fn sv w.heap.size (W0.heap.size + 1) W0.heap.size) (fun pre W2 hJ => hJ.below)
      (fun pre x W hJ hl => AnyZI.apYield { Try.sortedZ with } Fence.wide (n - 1 - 1) w fn hfn _ w.heap.size (W0.heap.size + 1) W0.heap.size (by omega) (by omega) (by omega) (Nat.le_refl _) (by omega) xs.length hN hNb pre x W hJ hl) W1 hM).mono ?_
    rintro e W2 ⟨⟨v0, rfl⟩, h2⟩
    obtain ⟨v, hv, hrow, hnil⟩ := h2.box
    have hend := run_endLoop (P := Try.prog) h2.L (by simp [AnyZI.apRec])
    obtain ⟨W3, hW3⟩ : ∃ W3, W2.putObj (W0.heap.size + 1) (.loop { AnyZI.apRec Try.sortedZ_ren fn sv w.heap.size W0.heap.size .ready none with state := .exhausted }) = W3 := ⟨_, rfl⟩
    rw [hW3] at hend
    have hg3 : W2.grownBy W3 (some (W0.heap.size + 1)) := by rw [← hW3]; exact grownBy_putObj_a _ _ _
    have hv3 : W3.heap[w.heap.size]? = some (.cells #[v] 22 (0, 0)) := by rw [← hW3]; exact (World.putObj_heap_other (by omega)).trans hv
    have hK3 : W3.heap[W0.heap.size]? = some (.deferred (some [])) := by rw [← hW3]; exact (World.putObj_heap_other (by omega)).trans h2.K
    have hrow3 := hrow.kept hg3 (ownsRow_ne_a hrow h2.L (fun cur e => by cases e))
    have hb3 : Below w.heap.size w W3 := h2.below.grown hg3 h2.below.size (fun k e => by cases e; omega)
    obtain ⟨hc3, hf3⟩ := cell_of_box_a hv3
    clear hW3
    refine ⟨none, W3, hend, ?_⟩
    gi_wp2
    rw [← hs0]
    refine ⟨by simp, .inl ⟨_, _, rfl, run_takeDeferred hK3, ?_⟩⟩
    exact ⟨_, results_tmp rfl _ _ _, v, rfl, hrow3.kept (grownBy_putObj_a _ _ _) (ownsRow_ne_a hrow3 hK3 (fun cur e => by cases e)), hb3.grown (grownBy_putObj_a _ _ _) hb3.size (fun k e => by cases e; omega)⟩
set_option maxHeartbeats 1000000 in
theorem collect_vals (gv c : Nat) (A : Option Addr) (xs : List Int) (hN : xs.length ≤ 1048576) (w : World) (hbox : w.heap[gv]? = some (.cells #[.slice A xs.length c] 22 (0, 0))) (hC : Kd.C (Kd.int .i64) w A xs.length xs) :
    Calls Try.prog 69 #[.func (.func 70) #[] #[.pointer (some ⟨gv, 0, none⟩)]] w fun e w' => ∃ v : Value, e = .returned v ∧ Kd.R (Kd.int .i64) 2 w' w.heap.size (fun _ => True) v xs ∧ Below w.heap.size w w' := by
  have h := callsIn_wide.1 (appendVals 5 gv c (by omega) A xs (Nat.le_trans hN (by simp [maxLen])) (by omega) w hbox hC)
  clear hbox hC
  go_enter Try.func69, Try.ntmps69
  go_wp2_with (go_at_call 75; refine h.mono ?_; rintro e w1 ⟨v, rfl, ho, hb⟩; have HO := Aside0.mk ho; have HB := Aside0.mk hb; clear ho hb)
  go_ret
  exact ⟨v, rfl, Kd.R_of_own HO.out (fun _ _ => trivial), HB.out⟩
set_option maxHeartbeats 1000000 in
theorem sorted_vals (gv c : Nat) (A : Option Addr) (xs : List Int) (hN : xs.length ≤ 1048576) (w : World) (hbox : w.heap[gv]? = some (.cells #[.slice A xs.length c] 22 (0, 0))) (hC : Kd.C (Kd.int .i64) w A xs.length xs) :
    Calls Try.prog 52 #[.func (.func 70) #[] #[.pointer (some ⟨gv, 0, none⟩)]] w fun e w' => ∃ v : Value, e = .returned v ∧ Kd.R (Kd.int .i64) 2 w' w.heap.size (fun _ => True) v (xs.mergeSort fun x y => decide (x ≤ y)) ∧ Below w.heap.size w w' := by
  have h := collect_vals gv c A xs hN w hbox hC
  clear hbox hC
  go_enter Try.func52, Try.ntmps52
  go_wp2_with (first | (go_at_call 69; refine h.mono ?_; rintro e w1 ⟨v, rfl, ho, hb⟩; have HO := Aside0.mk ho; have HB := Aside0.mk hb; clear ho hb) | (go_at_call 65; refine (sort_own HO.out HB.out (by omega)).mono ?_; rintro e w2 ⟨rfl, ho, hb⟩; have HO2 := Aside0.mk ho; have HB2 := Aside0.mk hb; clear ho hb))
  go_ret
  exact ⟨v, rfl, HO2.out, HB2.out⟩
def impl_isRising.l0 : Nat → List Int → Int → Int → List Int → Int → Int → Option (Bool)
 | 0, _, _, _, _, _, _ => none
 | k + 1, x0, x1, x2, x9, x10, x11 => if x11 < x10 then (if 0 ≤ x11 then (if x11 < (x9.length : Int) then ((impl_within.f (rd x9 x11) x1 x2).bind fun t399 => (if t399 = true then (if x11 > 0 then (if 0 ≤ (wrap64 (x11 - 1)) then (if (wrap64 (x11 - 1)) < (x0.length : Int) then (if (rd x9 x11) ≤ (rd x0 (wrap64 (x11 - 1))) then (some false) else (impl_isRising.l0 k x0 x1 x2 x9 x10 (wrap64 (x11 + 1)))) else (none)) else (none)) else (impl_isRising.l0 k x0 x1 x2 x9 x10 (wrap64 (x11 + 1)))) else (some false))) else (none)) else (none)) else (some true)
def impl_isRising.f (k : Nat) (l0 : List Int) (a1 : Int) (a2 : Int) : Option (Bool) := impl_isRising.l0 k l0 a1 a2 l0 (l0.length : Int) 0
set_option maxHeartbeats 8000000 in
set_option maxRecDepth 100000 in
theorem impl_isRising.calls (k : Nat) (A0 : Option Addr) (c0 : Nat) (l0 : List Int) (a1 : Int) (a2 : Int) (r : Bool) (w : World) (hr0 : Kd.C (Kd.int .i64) w A0 l0.length l0) (hc0 : l0.length ≤ c0) (h : impl_isRising.f k l0 a1 a2 = some r) :
  Calls Try.prog 51 #[.slice A0 l0.length c0, .int .i64 a1, .int .i64 a2] w fun e w' => e = .returned (.bool r) ∧ Drawn0 w w' := by
 have HR0 := Aside0.mk hr0
 have HC0 := Aside0.mk hc0
 clear hr0 hc0
 have H : (impl_isRising.l0 k l0 a1 a2 l0 (l0.length : Int) 0) = some r := h
 clear h
 have H' := Aside0.mk H
 clear H
 go_enter Try.func51, Try.ntmps51
 go_wp2
 go_loopg [11] k (fun kq v11 w' => ∃ (x11_1 : Int), v11 = .int .i64 x11_1 ∧ Aside0 (impl_isRising.l0 kq l0 a1 a2 l0 (l0.length : Int) x11_1 = some r) ∧ Aside0 (kq ≤ k) ∧ Drawn0 w w')
 case atStart => exact ⟨(0), (by first | rfl | (simp; done) | (simp [*]; done)), H', ⟨Nat.le_refl _⟩, by repeat (first | exact Drawn0.refl _ | apply Drawn0.step)⟩
 case round =>
  clear H'
  (try clear p2)
  obtain ⟨x11_1, rfl, HA, HK1, ⟨m1, rfl⟩⟩ := hrel
  cases gk with
  | zero => exact absurd HA.out (by simp [impl_isRising.l0])
  | succ k1 =>
   have H := HA.out
   clear HA
   simp only [impl_isRising.l0] at H
   by_cases c4 : x11_1 < (l0.length : Int)
   ·rw [if_pos c4] at H
    have c4b0 : decide (x11_1 < (l0.length : Int)) = true := decide_eq_true c4
    clear c4
    by_cases c5 : 0 ≤ x11_1
    ·rw [if_pos c5] at H
     have c5b0 : decide (0 ≤ x11_1) = true := decide_eq_true c5
     clear c5
     by_cases c6 : x11_1 < (l0.length : Int)
     ·rw [if_pos c6] at H
      have c6b0 : decide (x11_1 < (l0.length : Int)) = true := decide_eq_true c6
      clear c6
      replace H := Option.bind_eq_some_iff.mp H
      obtain ⟨t399, A70, H⟩ := H
      replace H : (if t399 = true then (if x11_1 > 0 then (if 0 ≤ (wrap64 (x11_1 - 1)) then (if (wrap64 (x11_1 - 1)) < (l0.length : Int) then (if (rd l0 x11_1) ≤ (rd l0 (wrap64 (x11_1 - 1))) then (some false) else (impl_isRising.l0 k1 l0 a1 a2 l0 (l0.length : Int) (wrap64 (x11_1 + 1)))) else (none)) else (none)) else (impl_isRising.l0 k1 l0 a1 a2 l0 (l0.length : Int) (wrap64 (x11_1 + 1)))) else (some false)) = some r := H
      have A7 := Aside0.mk A70
      clear A70
      by_cases c8 : t399 = true
      ·subst c8
       have H1 : (if x11_1 > 0 then (if 0 ≤ (wrap64 (x11_1 - 1)) then (if (wrap64 (x11_1 - 1)) < (l0.length : Int) then (if (rd l0 x11_1) ≤ (rd l0 (wrap64 (x11_1 - 1))) then (some false) else (impl_isRising.l0 k1 l0 a1 a2 l0 (l0.length : Int) (wrap64 (x11_1 + 1)))) else (none)) else (none)) else (impl_isRising.l0 k1 l0 a1 a2 l0 (l0.length : Int) (wrap64 (x11_1 + 1)))) = some r := by rw [if_pos rfl] at H; exact H
       clear H
       have H := H1
       clear H1
       by_cases c9 : x11_1 > 0
       ·rw [if_pos c9] at H
        have c9b0 : decide (0 < x11_1) = true := decide_eq_true c9
        clear c9
        obtain ⟨ji10, hji10⟩ : ∃ j_ : Int, (wrap64 (x11_1 - 1)) = j_ := ⟨_, rfl⟩
        replace H : (if 0 ≤ (ji10) then (if (ji10) < (l0.length : Int) then (if (rd l0 x11_1) ≤ (rd l0 (ji10)) then (some false) else (impl_isRising.l0 k1 l0 a1 a2 l0 (l0.length : Int) (wrap64 (x11_1 + 1)))) else (none)) else (none)) = some r := by first | (rw [hji10] at H; exact H) | (simp only [hji10] at H ⊢; exact H)
        (try rw [hji10] at A7)
        have hji10w : (IntKind.i64.wrap (x11_1 - 1)) = ji10 := (i64_w _).trans hji10
        by_cases c11 : 0 ≤ (ji10)
        ·rw [if_pos c11] at H
         have c11b0 : decide (0 ≤ (ji10)) = true := decide_eq_true c11
         clear c11
         by_cases c12 : (ji10) < (l0.length : Int)
         ·rw [if_pos c12] at H
          have c12b0 : decide ((ji10) < (l0.length : Int)) = true := decide_eq_true c12
          clear c12
          by_cases c13 : (rd l0 x11_1) ≤ (rd l0 (ji10))
          ·rw [if_pos c13] at H
           have c13b0 : decide ((rd l0 x11_1) ≤ (rd l0 (ji10))) = true := decide_eq_true c13
           clear c13
           obtain rfl := Option.some.inj H
           have p398 : 0 ≤ (x11_1 : Int) := oda
           have q398 : x11_1 < (l0.length : Int) := oda
           obtain ⟨ad398, e398, hx398_0⟩ := Kd.at_int HR0.out x11_1 p398 q398
           cases e398
           replace p398 := eq_true p398
           replace q398 := eq_true q398
           go_wp2_with (first | ((with_reducible refine gate_callee (f := 46) rfl ?_); refine goesA_ (some 19) rfl rfl Try.func46 (by kernel_rfl) rfl #[.int .i64 (rd l0 x11_1), .int .i64 a1, .int .i64 a2] rfl ?_; (with_reducible refine (impl_within.calls (rd l0 x11_1) a1 a2 true _ A7.out).mono ?_); rintro e w' ⟨rfl, ⟨nd, rfl⟩⟩; refine ⟨_, rfl, ?_⟩; have p400 : 0 ≤ ((ji10) : Int) := oda; have q400 : (ji10) < (l0.length : Int) := oda; obtain ⟨ad400, e400, hx400_0⟩ := Kd.at_int HR0.out (ji10) p400 q400; obtain rfl : ad398 = ad400 := (by injection e400); replace p400 := eq_true p400; replace q400 := eq_true q400))
           go_ret
           exact ⟨by first | rfl | (simp; done) | (simp only [← hji10] <;> (first | rfl | simp)) | (simp [*]; done), by repeat (first | exact Drawn0.refl _ | apply Drawn0.step)⟩
          ·rw [if_neg c13] at H
           have c13b0 : decide ((rd l0 x11_1) ≤ (rd l0 (ji10))) = false := decide_eq_false c13
           clear c13
           have H' := Aside0.mk H
           clear H
           have p398 : 0 ≤ (x11_1 : Int) := oda
           have q398 : x11_1 < (l0.length : Int) := oda
           obtain ⟨ad398, e398, hx398_0⟩ := Kd.at_int HR0.out x11_1 p398 q398
           cases e398
           replace p398 := eq_true p398
           replace q398 := eq_true q398
           go_wp2_with (first | ((with_reducible refine gate_callee (f := 46) rfl ?_); refine goesA_ (some 19) rfl rfl Try.func46 (by kernel_rfl) rfl #[.int .i64 (rd l0 x11_1), .int .i64 a1, .int .i64 a2] rfl ?_; (with_reducible refine (impl_within.calls (rd l0 x11_1) a1 a2 true _ A7.out).mono ?_); rintro e w' ⟨rfl, ⟨nd, rfl⟩⟩; refine ⟨_, rfl, ?_⟩; have p400 : 0 ≤ ((ji10) : Int) := oda; have q400 : (ji10) < (l0.length : Int) := oda; obtain ⟨ad400, e400, hx400_0⟩ := Kd.at_int HR0.out (ji10) p400 q400; obtain rfl : ad398 = ad400 := (by injection e400); replace p400 := eq_true p400; replace q400 := eq_true q400))
           go_roundg k1
           case measure => have := HK1.out; omega
           case rel => exact ⟨(wrap64 (x11_1 + 1)), (by first | rfl | (simp; done) | (simp [*]; done)), H', ⟨by have := HK1.out; omega⟩, by repeat (first | exact Drawn0.refl _ | apply Drawn0.step)⟩
         ·rw [if_neg c12] at H
          exact absurd H (by simp)
        ·rw [if_neg c11] at H
         exact absurd H (by simp)
       ·rw [if_neg c9] at H
        have c9b0 : decide (0 < x11_1) = false := decide_eq_false c9
        clear c9
        have H' := Aside0.mk H
        clear H
        have p398 : 0 ≤ (x11_1 : Int) := oda
        have q398 : x11_1 < (l0.length : Int) := oda
        obtain ⟨ad398, e398, hx398_0⟩ := Kd.at_int HR0.out x11_1 p398 q398
        cases e398
        replace p398 := eq_true p398
        replace q398 := eq_true q398
        go_wp2_with (first | ((with_reducible refine gate_callee (f := 46) rfl ?_); refine goesA_ (some 19) rfl rfl Try.func46 (by kernel_rfl) rfl #[.int .i64 (rd l0 x11_1), .int .i64 a1, .int .i64 a2] rfl ?_; (with_reducible refine (impl_within.calls (rd l0 x11_1) a1 a2 true _ A7.out).mono ?_); rintro e w' ⟨rfl, ⟨nd, rfl⟩⟩; refine ⟨_, rfl, ?_⟩))
        go_roundg k1
        case measure => have := HK1.out; omega
        case rel => exact ⟨(wrap64 (x11_1 + 1)), (by first | rfl | (simp; done) | (simp [*]; done)), H', ⟨by have := HK1.out; omega⟩, by repeat (first | exact Drawn0.refl _ | apply Drawn0.step)⟩
      ·replace c8 := Bool.eq_false_iff.mpr c8
       subst c8
       have H1 : (some false) = some r := by rw [if_neg (show ¬ (false = true) by decide)] at H; exact H
       clear H
       have H := H1
       clear H1
       obtain rfl := Option.some.inj H
       have p398 : 0 ≤ (x11_1 : Int) := oda
       have q398 : x11_1 < (l0.length : Int) := oda
       obtain ⟨ad398, e398, hx398_0⟩ := Kd.at_int HR0.out x11_1 p398 q398
       cases e398
       replace p398 := eq_true p398
       replace q398 := eq_true q398
       go_wp2_with (first | ((with_reducible refine gate_callee (f := 46) rfl ?_); refine goesA_ (some 19) rfl rfl Try.func46 (by kernel_rfl) rfl #[.int .i64 (rd l0 x11_1), .int .i64 a1, .int .i64 a2] rfl ?_; (with_reducible refine (impl_within.calls (rd l0 x11_1) a1 a2 false _ A7.out).mono ?_); rintro e w' ⟨rfl, ⟨nd, rfl⟩⟩; refine ⟨_, rfl, ?_⟩))
       go_ret
       exact ⟨by first | rfl | (simp; done) | (simp [*]; done), by repeat (first | exact Drawn0.refl _ | apply Drawn0.step)⟩
     ·rw [if_neg c6] at H
      exact absurd H (by simp)
    ·rw [if_neg c5] at H
     exact absurd H (by simp)
   ·rw [if_neg c4] at H
    have c4b0 : decide (x11_1 < (l0.length : Int)) = false := decide_eq_false c4
    clear c4
    obtain rfl := Option.some.inj H
    go_wp2
    go_ret
    exact ⟨by first | rfl | (simp; done) | (simp [*]; done), by repeat (first | exact Drawn0.refl _ | apply Drawn0.step)⟩
def risingFrom (lo hi : Int) : Option Int → List Int → Bool
 | _, [] => true
 | none, x :: r => inW x lo hi && risingFrom lo hi (some x) r
 | some p, x :: r => inW x lo hi && !decide (x ≤ p) && risingFrom lo hi (some x) r
def rising (l : List Int) (lo hi : Int) : Bool := risingFrom lo hi none l
def lastOf (x : List Int) (i : Nat) : Option Int := if i = 0 then none else some (x.getD (i - 1) 0)
theorem rising_l0 (x : List Int) (lo ub : Int) (hx : x.length ≤ 9223372036854775807) : ∀ (d i : Nat), i + d = x.length → Ev (fun k => impl_isRising.l0 k x lo ub x (x.length : Int) i) (risingFrom lo ub (lastOf x i) (x.drop i)) := by
 intro d
 induction d with
 | zero =>
  intro i hi
  refine Ev.step (f := fun _ => some _) (fun k => ?_) (Ev.now _)
  simp only [impl_isRising.l0]
  rw [if_neg (by omega), List.drop_of_length_le (l := x) (by omega)]
  cases lastOf x i <;> rfl
 | succ d ih =>
  intro i hi
  have hlt : i < x.length := by omega
  have e1 : x.drop i = x[i] :: x.drop (i + 1) := List.drop_eq_getElem_cons hlt
  have el : lastOf x (i + 1) = some x[i] := by
   unfold lastOf
   rw [if_neg (by omega), Nat.add_sub_cancel, List.getD_eq_getElem?_getD, List.getElem?_eq_getElem hlt]; rfl
  have ih1 := ih (i + 1) (by omega)
  rw [el] at ih1
  rw [e1]
  by_cases hw : inW x[i] lo ub = true
  ·by_cases h0 : i = 0
   ·subst h0
    have er : risingFrom lo ub (lastOf x 0) (x[0] :: x.drop 1) = risingFrom lo ub (some x[0]) (x.drop 1) := by
     show (inW x[0] lo ub && _) = _
     rw [hw]; rfl
    rw [er]
    refine Ev.step (fun k => ?_) ih1
    simp only [impl_isRising.l0]
    rw [if_pos (by omega), if_pos (by omega), if_pos (by omega), rd_get x 0 hlt, within_inW, hw, Option.bind_some, if_pos rfl, if_neg (by omega), wrap_next hlt (by omega)]
   ·have hp : i - 1 < x.length := by omega
    have el0 : lastOf x i = some x[i - 1] := by
     unfold lastOf
     rw [if_neg h0, List.getD_eq_getElem?_getD, List.getElem?_eq_getElem hp]; rfl
    have ew : wrap64 ((i : Int) - 1) = ((i - 1 : Nat) : Int) := by unfold wrap64; omega
    rw [el0]
    by_cases hc : x[i] ≤ x[i - 1]
    ·have er : risingFrom lo ub (some x[i - 1]) (x[i] :: x.drop (i + 1)) = false := by
      show (inW x[i] lo ub && _ && _) = _
      simp [hc]
     rw [er]
     refine Ev.step (f := fun _ => some _) (fun k => ?_) (Ev.now _)
     simp only [impl_isRising.l0]
     rw [if_pos (by omega), if_pos (by omega), if_pos (by omega), rd_get x i hlt, within_inW, hw, Option.bind_some, if_pos rfl, if_pos (by omega), ew, if_pos (by omega), if_pos (by omega), rd_get x (i - 1) hp, if_pos hc]
    ·have er : risingFrom lo ub (some x[i - 1]) (x[i] :: x.drop (i + 1)) = risingFrom lo ub (some x[i]) (x.drop (i + 1)) := by
      show (inW x[i] lo ub && _ && _) = _
      simp [hc, hw]
     rw [er]
     refine Ev.step (fun k => ?_) ih1
     simp only [impl_isRising.l0]
     rw [if_pos (by omega), if_pos (by omega), if_pos (by omega), rd_get x i hlt, within_inW, hw, Option.bind_some, if_pos rfl, if_pos (by omega), ew, if_pos (by omega), if_pos (by omega), rd_get x (i - 1) hp, if_neg hc, wrap_next hlt (by omega)]
  ·have er : risingFrom lo ub (lastOf x i) (x[i] :: x.drop (i + 1)) = false := by
    cases lastOf x i <;> simp [risingFrom, hw]
   rw [er]
   refine Ev.step (f := fun _ => some _) (fun k => ?_) (Ev.now _)
   simp only [impl_isRising.l0]
   rw [if_pos (by omega), if_pos (by omega), if_pos (by omega), rd_get x i hlt, within_inW, Option.bind_some, if_neg (by simpa using hw)]
theorem rising_ev (x : List Int) (lo hi : Int) (hx : x.length ≤ 9223372036854775807) : Ev (fun k => impl_isRising.f k x lo hi) (rising x lo hi) := by
 have := rising_l0 x lo hi hx x.length 0 (by omega)
 simpa [impl_isRising.f, rising, lastOf] using this
theorem rising_run (A0 : Option Addr) (c0 : Nat) (l0 : List Int) (lo hi : Int) (w : World) (hr0 : Kd.C (Kd.int .i64) w A0 l0.length l0) (hc0 : l0.length ≤ c0) :
  Calls Try.prog 51 #[.slice A0 l0.length c0, .int .i64 lo, .int .i64 hi] w fun e w' => e = .returned (.bool (rising l0 lo hi)) ∧ Drawn0 w w' := by
 obtain ⟨k, hk⟩ := (rising_ev l0 lo hi hr0.2.1).rounds
 exact impl_isRising.calls k A0 c0 l0 lo hi _ w hr0 hc0 hk
def impl_Sea_areCells.f (a0_0 a0_1 : Int) (l0_2 l1 : List Int) : Option Bool := if l1.length ≤ 1048576 then some (rising (l1.mergeSort fun x y => decide (x ≤ y)) 0 (wrap64 (wrap64 (a0_0 * a0_1) - 1))) else none
theorem values_run (A : Option Addr) (n c : Nat) (w : World) : Calls Try.prog 53 #[.slice A n c] w fun e w' => ∃ g, e = .returned (.func (.func 70) #[] #[.pointer (some ⟨g, 0, none⟩)]) ∧ w'.heap[g]? = some (.cells #[.slice A n c] 22 (0, 0)) ∧ Below w.heap.size w w' := by
 go_enter Try.func53, Try.ntmps53
 go_wp2_with (first | ((with_reducible refine gate_dst (N := 1) rfl ?_); refine box_event ?hg (N := 1) ?hd (cs := #[.slice A n c]) (t := 22) ?hr ?_; (case hd => rfl); (case hg => rfl); (case hr => first | (go_simp; done) | (go_simp; rfl)); intro g2 hg2 w1 hbox hb; have HX := Aside0.mk hbox; have HB := Aside0.mk hb; clear hbox hb hg2))
 go_ret
 exact ⟨g2, rfl, HX.out, HB.out⟩
def impl_Sea_areCells.T1 : Bool × List (List Nat × List Nat) := (true, [([], []), ([0], [0]), ([1, 1], [1]), ([], []), ([3, 2], [3]), ([4], [4]), ([2, 5, 4], [2, 5]), ([6, 6, 0, 1, 2, 3, 4, 5, 6], [6])])
def impl_Sea_areCells.B1 : List Nat := [0, 1, 3, 0, 15, 31, 63, 127]
theorem impl_Sea_areCells.tab1 : rtab .any (opsOf Try.f35 1) = impl_Sea_areCells.T1 := by kernel_rfl
theorem impl_Sea_areCells.bits1 : waitsOk impl_Sea_areCells.T1.2 impl_Sea_areCells.B1 = true := by kernel_rfl
set_option maxHeartbeats 4000000 in
set_option maxRecDepth 100000 in
theorem impl_Sea_areCells.calls (a0_0 a0_1 : Int) (A0_2 : Option Addr) (c0_2 : Nat) (l0_2 : List Int) (A1 : Option Addr) (c1 : Nat) (l1 : List Int) (r : Bool) (w : World) (hr0_2 : Kd.C (Kd.int .i64) w A0_2 l0_2.length l0_2) (hc0_2 : l0_2.length ≤ c0_2) (hr1 : Kd.C (Kd.int .i64) w A1 l1.length l1) (hc1 : l1.length ≤ c1) (h : impl_Sea_areCells.f a0_0 a0_1 l0_2 l1 = some r) :
  Calls Try.prog 35 #[.agg #[.int .i64 a0_0, .int .i64 a0_1, .slice A0_2 l0_2.length c0_2], .slice A1 l1.length c1] w fun e w' => e = .returned (.bool r) ∧ Below w.heap.size w w' := by
 unfold impl_Sea_areCells.f at h
 split at h
 case isFalse => cases h
 rename_i hl1
 obtain rfl := Option.some.inj h
 clear h
 have HB := Aside0.mk (Below.refl w.heap.size w)
 have HR := Aside0.mk hr0_2
 have HC := Aside0.mk hc0_2
 have HL := Aside0.mk hr1
 have HLn := Aside0.mk hl1
 have hu28 := Try.underlying28
 clear hr0_2 hc0_2 hl1 hr1 hc1
 go_enter Try.func35, Try.ntmps35
 go_wp2_with (first | ((with_reducible refine gate_dst (N := 2) rfl ?_); refine box_event ?hg (N := 2) ?hd (cs := #[.int .i64 a0_0, .int .i64 a0_1, .slice A0_2 l0_2.length c0_2]) (t := 28) ?hr ?_; (case hd => rfl); (case hg => rfl); (case hr => first | (go_simp; done) | (go_simp; rfl)); intro g2 hg2 w1 hbox hb; have HX := Aside0.mk hbox; have HB1 := Aside0.mk (bp_ HB.out hb); have HR1 := Aside0.mk (Kd.C_below HR.out hb); have HL1 := Aside0.mk (Kd.C_below HL.out hb); clear hbox hb hg2))
 have n1_ := Aside0.mk (bkd_ HX.out)
 have n2_ := Aside0.mk (bd1_ HB1.out)
 have n3_ := Aside0.mk (Kd.C_below HR1.out (bd1_ (Below.refl _ _)))
 have n4_ := Aside0.mk (Kd.C_below HL1.out (bd1_ (Below.refl _ _)))
 clear HX HB1 HR1 HL1
 refine start_ (n := 8) (S := fun w' => w'.cell? ⟨g2, 0, none⟩ = some (.int .i64 a0_0) ∧ w'.cell? ⟨g2, 1, none⟩ = some (.int .i64 a0_1) ∧ w'.cell? ⟨g2, 2, none⟩ = some (.slice A0_2 l0_2.length c0_2)) (ds := []) #[false, false, false, false, false, false, false, false] (by kernel_rfl) rfl rfl ⟨(bc_ n1_.out 0).trans rfl, (bc_ n1_.out 1).trans rfl, (bc_ n1_.out 2).trans rfl⟩ (fun hHeld => ?_)
 refine with_tabW impl_Sea_areCells.tab1 impl_Sea_areCells.bits1 (fun HT_ HW_ => ?_)
 generalize hq_ : w1.drew = wd_ at n1_ n2_ n3_ n4_ hHeld ⊢
 clear hq_
 refine pure_ (i := 0) (N := some 5) (v := ?_) (a' := ?_) (flg_ 8 1) rfl rfl (any_of HT_.out (by kernel_rfl)) (fun _ _ _ h => h) (Or.inl ⟨by rfl, ?_⟩) ?_ ?_
 rotate_left; (· (intro w'; go_simp; with_reducible rfl)); rotate_left; (· (simp only [Act.put, sz_, s0_, s1_, i64_w, i32_w]; rfl))
 refine take_ (i := 3) (N := some 8) (v := ?_) (a' := ?_) (flg_ 8 9) rfl rfl (take_ofW HT_.out HW_.out (by kernel_rfl)) (fun _ _ _ h => h) (Or.inl ⟨by rfl, ?_⟩) hHeld ?_ ?_
 rotate_left; (· (rintro w' ⟨s0_, s1_, s2_⟩; go_simp; with_reducible rfl)); rotate_left; (· (simp only [Act.put, sz_, s0_, s1_, i64_w, i32_w]; rfl))
 refine one_ (i := 1) (N := some 6) (flg_ 8 11) rfl rfl (one_of HT_.out (by kernel_rfl)) (by decide) (fun K hK => ?_)
 refine goes_ Try.func53 (by kernel_rfl) rfl #[.slice A1 l1.length c1] (by rfl) rfl rfl (by (try simp only [List.map_toArray, List.map_cons, List.map_nil]); first | done | rfl) ?_
 refine (values_run A1 l1.length c1 _).mono ?_
 rintro e wa_ ⟨gv, rfl, hv, hb⟩
 refine ⟨_, rfl, ?_⟩
 have HV := Aside0.mk hv
 clear hv
 have m1_ := Aside0.mk (bb_ n1_.out hb)
 have m2_ := Aside0.mk (bp_ n2_.out hb)
 have m3_ := Aside0.mk (Kd.C_below n3_.out hb)
 have m4_ := Aside0.mk (Kd.C_below n4_.out hb)
 clear hb n1_ n2_ n3_ n4_
 have n1_ := m1_
 have n2_ := m2_
 have n3_ := m3_
 have n4_ := m4_
 clear m1_ m2_ m3_ m4_
 refine hK.out _ _ ⟨(bc_ n1_.out 0).trans rfl, (bc_ n1_.out 1).trans rfl, (bc_ n1_.out 2).trans rfl⟩ (fun hHeld => ?_)
 clear hK K
 refine norm_ (a' := ?_) ?_ ?_
 rotate_left
 ·show Act.put _ (some 6) _ = _
  simp only [Act.put, sz_, s0_, s1_, i64_w, i32_w]
  rfl
 refine one_ (i := 2) (N := some 7) (flg_ 8 15) rfl rfl (one_of HT_.out (by kernel_rfl)) (by decide) (fun K hK => ?_)
 refine goes_ Try.func52 (by kernel_rfl) rfl #[.func (.func 70) #[] #[.pointer (some ⟨gv, 0, none⟩)]] (by rfl) rfl rfl (by (try simp only [List.map_toArray, List.map_cons, List.map_nil]); first | done | rfl) ?_
 refine (sorted_vals gv c1 A1 l1 HLn.out _ HV.out n4_.out).mono ?_
 rintro e wb_ ⟨v7, rfl, ho, hb⟩
 obtain ⟨A7, c7, e7⟩ := Kd.R_slice ho
 subst e7
 refine ⟨_, rfl, ?_⟩
 clear HV
 have HS7 := Aside0.mk (Kd.R_reads' ho)
 clear ho
 have m1_ := Aside0.mk (bb_ n1_.out hb)
 have m2_ := Aside0.mk (bp_ n2_.out hb)
 have m3_ := Aside0.mk (Kd.C_below n3_.out hb)
 have m4_ := Aside0.mk (Kd.C_below n4_.out hb)
 clear hb n1_ n2_ n3_ n4_
 have n1_ := m1_
 have n2_ := m2_
 have n3_ := m3_
 have n4_ := m4_
 clear m1_ m2_ m3_ m4_
 refine hK.out _ _ ⟨(bc_ n1_.out 0).trans rfl, (bc_ n1_.out 1).trans rfl, (bc_ n1_.out 2).trans rfl⟩ (fun hHeld => ?_)
 clear hK K
 refine norm_ (a' := ?_) ?_ ?_
 rotate_left
 ·show Act.put _ (some 7) _ = _
  simp only [Act.put, sz_, s0_, s1_, i64_w, i32_w]
  rfl
 refine one_ (i := 4) (N := some 9) (flg_ 8 31) rfl rfl (one_of HT_.out (by kernel_rfl)) (by decide) (fun K hK => ?_)
 refine goes_ Try.func54 (by kernel_rfl) rfl #[.agg #[.int .i64 a0_0, .int .i64 a0_1, .slice A0_2 l0_2.length c0_2]] (by rfl) rfl rfl (by (try simp only [List.map_toArray, List.map_cons, List.map_nil]); first | done | rfl) ?_
 refine (impl_Sea_cells.calls a0_0 a0_1 A0_2 c0_2 l0_2 _ _ n3_.out HC.out rfl).mono ?_
 rintro e wc_ ⟨rfl, hb⟩
 refine ⟨_, rfl, ?_⟩
 have HS8 := Aside0.mk (Kd.C_below HS7.out.2.2 hb)
 have m1_ := Aside0.mk (bb_ n1_.out hb)
 have m2_ := Aside0.mk (bp_ n2_.out hb)
 have m3_ := Aside0.mk (Kd.C_below n3_.out hb)
 have m4_ := Aside0.mk (Kd.C_below n4_.out hb)
 clear hb n1_ n2_ n3_ n4_
 have n1_ := m1_
 have n2_ := m2_
 have n3_ := m3_
 have n4_ := m4_
 clear m1_ m2_ m3_ m4_
 refine hK.out _ _ ⟨(bc_ n1_.out 0).trans rfl, (bc_ n1_.out 1).trans rfl, (bc_ n1_.out 2).trans rfl⟩ (fun hHeld => ?_)
 clear hK K
 refine norm_ (a' := ?_) ?_ ?_
 rotate_left
 ·show Act.put _ (some 9) _ = _
  simp only [Act.put, sz_, s0_, s1_, i64_w, i32_w]
  rfl
 refine pure_ (i := 5) (N := some 10) (v := ?_) (a' := ?_) (flg_ 8 63) rfl rfl (any_of HT_.out (by kernel_rfl)) (fun _ _ _ h => h) (Or.inl ⟨by rfl, ?_⟩) ?_ ?_
 rotate_left; (· (intro w'; go_simp; with_reducible rfl)); rotate_left; (· (simp only [Act.put, sz_, s0_, s1_, i64_w, i32_w]; rfl))
 refine one_ (i := 6) (N := some 11) (flg_ 8 127) rfl rfl (one_of HT_.out (by kernel_rfl)) (by decide) (fun K hK => ?_)
 refine goes_ Try.func51 (by kernel_rfl) rfl #[.slice A7 (l1.mergeSort fun x y => decide (x ≤ y)).length c7, .int .i64 0, .int .i64 (wrap64 (wrap64 (a0_0 * a0_1) - 1))] (by rfl) rfl rfl (by (try simp only [List.map_toArray, List.map_cons, List.map_nil]); first | done | rfl) ?_
 refine (rising_run A7 c7 (l1.mergeSort fun x y => decide (x ≤ y)) 0 (wrap64 (wrap64 (a0_0 * a0_1) - 1)) _ HS8.out HS7.out.2.1).mono ?_
 rintro e wd_ ⟨rfl, hd⟩
 have hb := hd.below
 clear hd
 refine ⟨_, rfl, ?_⟩
 have m1_ := Aside0.mk (bb_ n1_.out hb)
 have m2_ := Aside0.mk (bp_ n2_.out hb)
 have m3_ := Aside0.mk (Kd.C_below n3_.out hb)
 have m4_ := Aside0.mk (Kd.C_below n4_.out hb)
 clear hb n1_ n2_ n3_ n4_
 have n1_ := m1_
 have n2_ := m2_
 have n3_ := m3_
 have n4_ := m4_
 clear m1_ m2_ m3_ m4_
 refine hK.out _ _ ⟨(bc_ n1_.out 0).trans rfl, (bc_ n1_.out 1).trans rfl, (bc_ n1_.out 2).trans rfl⟩ (fun hHeld => ?_)
 clear hK K
 refine norm_ (a' := ?_) ?_ ?_
 rotate_left
 ·show Act.put _ (some 11) _ = _
  simp only [Act.put, sz_, s0_, s1_, i64_w, i32_w]
  rfl
 refine pure_ (i := 7) (N := some 4) (v := ?_) (a' := ?_) (flg_ 8 255) rfl rfl (any_of HT_.out (by kernel_rfl)) (fun _ _ _ h => h) (Or.inl ⟨by rfl, ?_⟩) ?_ ?_
 rotate_left; (· (intro w'; go_simp; with_reducible rfl)); rotate_left; (· (simp only [Act.put, sz_, s0_, s1_, i64_w, i32_w]; rfl))
 refine done_ (done_of HT_.out (by kernel_rfl)) ?_
 go_wp2_with fail
 go_ret
 exact ⟨rfl, n2_.out⟩
def impl_fleetCode.f (k : Nat) (a0_0 : Int) (a0_1 : Int) (l0_2 : List Int) (l1 : List Int) (l2 : List Int) : Option (Int) := (impl_IsSea.f k a0_0 a0_1 l0_2).bind fun t402 => (if t402 = true then ((impl_Sea_isFleet.f k a0_0 a0_1 l0_2 l1).bind fun t403 => (if t403 = true then ((impl_Sea_areCells.f a0_0 a0_1 l0_2 l2).bind fun t404 => ((impl_first.f k (([(⟨t404, 2⟩ : S60)] : List (S60)))).bind fun t408 => (some t408))) else ((impl_first.f k (([(⟨false, 2⟩ : S60)] : List (S60)))).bind fun t412 => (some t412)))) else (some 1))
set_option maxHeartbeats 8000000 in
set_option maxRecDepth 100000 in
theorem impl_fleetCode.calls (k : Nat) (a0_0 : Int) (a0_1 : Int) (A0_2 : Option Addr) (c0_2 : Nat) (l0_2 : List Int) (A1 : Option Addr) (c1 : Nat) (l1 : List Int) (A2 : Option Addr) (c2 : Nat) (l2 : List Int) (r : Int) (w : World) (hr0_2 : Kd.C (Kd.int .i64) w A0_2 l0_2.length l0_2) (hc0_2 : l0_2.length ≤ c0_2) (hr1 : Kd.C (Kd.int .i64) w A1 l1.length l1) (hc1 : l1.length ≤ c1) (hr2 : Kd.C (Kd.int .i64) w A2 l2.length l2) (hc2 : l2.length ≤ c2) (h : impl_fleetCode.f k a0_0 a0_1 l0_2 l1 l2 = some r) :
  Calls Try.prog 20 #[.agg #[.int .i64 a0_0, .int .i64 a0_1, .slice A0_2 l0_2.length c0_2], .slice A1 l1.length c1, .slice A2 l2.length c2] w fun e w' => e = .returned (.int .i64 r) ∧ Below w.heap.size w w' := by
 have hu28 := Try.underlying28
 have hu60 := Try.underlying60
 have HR0_2 := Aside0.mk hr0_2
 have HC0_2 := Aside0.mk hc0_2
 clear hr0_2 hc0_2
 have HR1 := Aside0.mk hr1
 have HC1 := Aside0.mk hc1
 clear hr1 hc1
 have HR2 := Aside0.mk hr2
 have HC2 := Aside0.mk hc2
 clear hr2 hc2
 have HB := Aside0.mk (Below.refl w.heap.size w)
 have H : ((impl_IsSea.f k a0_0 a0_1 l0_2).bind fun t402 => (if t402 = true then ((impl_Sea_isFleet.f k a0_0 a0_1 l0_2 l1).bind fun t403 => (if t403 = true then ((impl_Sea_areCells.f a0_0 a0_1 l0_2 l2).bind fun t404 => ((impl_first.f k (([(⟨t404, 2⟩ : S60)] : List (S60)))).bind fun t408 => (some t408))) else ((impl_first.f k (([(⟨false, 2⟩ : S60)] : List (S60)))).bind fun t412 => (some t412)))) else (some 1))) = some r := h
 clear h
 replace H := Option.bind_eq_some_iff.mp H
 obtain ⟨t402, A40, H⟩ := H
 replace H : (if t402 = true then ((impl_Sea_isFleet.f k a0_0 a0_1 l0_2 l1).bind fun t403 => (if t403 = true then ((impl_Sea_areCells.f a0_0 a0_1 l0_2 l2).bind fun t404 => ((impl_first.f k (([(⟨t404, 2⟩ : S60)] : List (S60)))).bind fun t408 => (some t408))) else ((impl_first.f k (([(⟨false, 2⟩ : S60)] : List (S60)))).bind fun t412 => (some t412)))) else (some 1)) = some r := H
 have A4 := Aside0.mk A40
 clear A40
 by_cases c5 : t402 = true
 ·subst c5
  have H1 : ((impl_Sea_isFleet.f k a0_0 a0_1 l0_2 l1).bind fun t403 => (if t403 = true then ((impl_Sea_areCells.f a0_0 a0_1 l0_2 l2).bind fun t404 => ((impl_first.f k (([(⟨t404, 2⟩ : S60)] : List (S60)))).bind fun t408 => (some t408))) else ((impl_first.f k (([(⟨false, 2⟩ : S60)] : List (S60)))).bind fun t412 => (some t412)))) = some r := by rw [if_pos rfl] at H; exact H
  clear H
  have H := H1
  clear H1
  replace H := Option.bind_eq_some_iff.mp H
  obtain ⟨t403, A60, H⟩ := H
  replace H : (if t403 = true then ((impl_Sea_areCells.f a0_0 a0_1 l0_2 l2).bind fun t404 => ((impl_first.f k (([(⟨t404, 2⟩ : S60)] : List (S60)))).bind fun t408 => (some t408))) else ((impl_first.f k (([(⟨false, 2⟩ : S60)] : List (S60)))).bind fun t412 => (some t412))) = some r := H
  have A6 := Aside0.mk A60
  clear A60
  by_cases c7 : t403 = true
  ·subst c7
   have H1 : ((impl_Sea_areCells.f a0_0 a0_1 l0_2 l2).bind fun t404 => ((impl_first.f k (([(⟨t404, 2⟩ : S60)] : List (S60)))).bind fun t408 => (some t408))) = some r := by rw [if_pos rfl] at H; exact H
   clear H
   have H := H1
   clear H1
   replace H := Option.bind_eq_some_iff.mp H
   obtain ⟨t404, A80, H⟩ := H
   replace H : ((impl_first.f k (([(⟨t404, 2⟩ : S60)] : List (S60)))).bind fun t408 => (some t408)) = some r := H
   have A8 := Aside0.mk A80
   clear A80
   obtain ⟨y405, hy405⟩ : ∃ y_ : List (S60), y_ = (([(⟨t404, 2⟩ : S60)] : List (S60))) := ⟨_, rfl⟩
   replace H : ((impl_first.f k y405).bind fun t408 => (some t408)) = some r := by first | (rw [hy405]; with_reducible exact H) | (have H2_ := (Option.bind_some _ _).symm.trans H; rw [hy405]; with_reducible exact H2_) | (have H2_ := (Option.bind_some _ _).symm.trans H; with_reducible exact H2_) | with_reducible exact H | (rw [hy405]; exact H) | exact H
   have Ny405 := Aside0.mk hy405
   clear hy405
   replace H := Option.bind_eq_some_iff.mp H
   obtain ⟨t408, A90, H⟩ := H
   replace H : (some t408) = some r := H
   have A9 := Aside0.mk A90
   clear A90
   obtain rfl := Option.some.inj H
   go_enter Try.func20, Try.ntmps20
   go_wp2_with (first | ((with_reducible refine gate_dst (N := 3) rfl ?_); refine box_event ?hg (N := 3) ?hd (cs := #[.int .i64 a0_0, .int .i64 a0_1, .slice A0_2 l0_2.length c0_2]) (t := 28) ?hr ?_; (case hd => rfl); (case hg => rfl); (case hr => first | (go_simp; done) | (go_simp; rfl)); intro gb401 hg w10 hbox hb; have n0_ := Aside0.mk (bp_ hb_ hb); have n1_ := Aside0.mk (hbox); have n2_ := Aside0.mk ((by rw [hg]; exact (bz_ hb_) : w.heap.size ≤ gb401)); have n3_ := Aside0.mk ((by rw [hg]; exact (bz_ hb_) : w.heap.size ≤ gb401)); clear HB; have HB := n0_; have BK401 := n1_; have GW401 := n2_; have GE401 := n3_; clear n0_ n1_ n2_ n3_; clear hb hbox hg; have hcz11_0 : w10.cell? ⟨gb401, 0, none⟩ = some (.int .i64 a0_0) := (bc_ BK401.out 0).trans rfl; have hcz11_1 : w10.cell? ⟨gb401, 1, none⟩ = some (.int .i64 a0_1) := (bc_ BK401.out 1).trans rfl; have hcz11_2 : w10.cell? ⟨gb401, 2, none⟩ = some (.slice A0_2 l0_2.length c0_2) := (bc_ BK401.out 2).trans rfl; have hfz11_0 := bf_ BK401.out 0; have hfz11_1 := bf_ BK401.out 1; have hfz11_2 := bf_ BK401.out 2) | ((with_reducible refine gate_callee (f := 32) rfl ?_); refine goesA_ (some 8) rfl rfl Try.func32 (by kernel_rfl) rfl #[.agg #[.int .i64 a0_0, .int .i64 a0_1, .slice A0_2 l0_2.length c0_2]] rfl ?_; (with_reducible refine (impl_IsSea.calls k a0_0 a0_1 _ _ l0_2 true _ ?side1 ?side2 A4.out).mono ?_); (case side1 => repeat (first | exact (Kd.C_below HR0_2.out HB.out) | (with_reducible refine Kd.C_alloc ?_ _) | (with_reducible refine Kd.C_drewN ?_ _) | (with_reducible refine Kd.C_drew ?_))); (case side2 => exact HC0_2.out); rintro e w12 ⟨rfl, hb⟩; refine ⟨_, rfl, ?_⟩; have n0_ := Aside0.mk (bb_ (g := gb401) (o := .cells #[.int .i64 a0_0, .int .i64 a0_1, .slice A0_2 l0_2.length c0_2] 28 (0, 0)) (by (with_reducible repeat (first | refine bN_ ?_ _ | refine bkd_ ?_ | refine bka_ ?_ _)); exact BK401.out) hb); have n1_ := Aside0.mk (bp_ (by repeat (first | (with_reducible first | exact HB.out | apply ba_ | apply pbN_ | apply bd1_ | refine bs_ ?_ GE401.out) | exact HB.out)) hb); clear BK401; clear HB; have BK401 := n0_; have HB := n1_; clear n0_ n1_; (try clear hb); (try clear hb2); (try clear hk); (try clear hi); have hcz13_0 : w12.cell? ⟨gb401, 0, none⟩ = some (.int .i64 a0_0) := (bc_ BK401.out 0).trans rfl; have hcz13_1 : w12.cell? ⟨gb401, 1, none⟩ = some (.int .i64 a0_1) := (bc_ BK401.out 1).trans rfl; have hcz13_2 : w12.cell? ⟨gb401, 2, none⟩ = some (.slice A0_2 l0_2.length c0_2) := (bc_ BK401.out 2).trans rfl; have hfz13_0 := bf_ BK401.out 0; have hfz13_1 := bf_ BK401.out 1; have hfz13_2 := bf_ BK401.out 2) | ((with_reducible refine gate_callee (f := 34) rfl ?_); refine goesA_ (some 12) rfl rfl Try.func34 (by kernel_rfl) rfl #[.agg #[.int .i64 a0_0, .int .i64 a0_1, .slice A0_2 l0_2.length c0_2], .slice A1 l1.length c1] rfl ?_; (with_reducible refine (impl_Sea_isFleet.calls k a0_0 a0_1 _ _ l0_2 _ _ l1 true _ ?side1 ?side2 ?side3 ?side4 A6.out).mono ?_); (case side1 => repeat (first | exact (Kd.C_below HR0_2.out HB.out) | (with_reducible refine Kd.C_alloc ?_ _) | (with_reducible refine Kd.C_drewN ?_ _) | (with_reducible refine Kd.C_drew ?_))); (case side2 => exact HC0_2.out); (case side3 => repeat (first | exact (Kd.C_below HR1.out HB.out) | (with_reducible refine Kd.C_alloc ?_ _) | (with_reducible refine Kd.C_drewN ?_ _) | (with_reducible refine Kd.C_drew ?_))); (case side4 => exact HC1.out); rintro e w14 ⟨rfl, hb⟩; refine ⟨_, rfl, ?_⟩; have n0_ := Aside0.mk (bb_ (g := gb401) (o := .cells #[.int .i64 a0_0, .int .i64 a0_1, .slice A0_2 l0_2.length c0_2] 28 (0, 0)) (by (with_reducible repeat (first | refine bN_ ?_ _ | refine bkd_ ?_ | refine bka_ ?_ _)); exact BK401.out) hb); have n1_ := Aside0.mk (bp_ (by repeat (first | (with_reducible first | exact HB.out | apply ba_ | apply pbN_ | apply bd1_ | refine bs_ ?_ GE401.out) | exact HB.out)) hb); clear BK401; clear HB; have BK401 := n0_; have HB := n1_; clear n0_ n1_; (try clear hb); (try clear hb2); (try clear hk); (try clear hi); have hcz15_0 : w14.cell? ⟨gb401, 0, none⟩ = some (.int .i64 a0_0) := (bc_ BK401.out 0).trans rfl; have hcz15_1 : w14.cell? ⟨gb401, 1, none⟩ = some (.int .i64 a0_1) := (bc_ BK401.out 1).trans rfl; have hcz15_2 : w14.cell? ⟨gb401, 2, none⟩ = some (.slice A0_2 l0_2.length c0_2) := (bc_ BK401.out 2).trans rfl; have hfz15_0 := bf_ BK401.out 0; have hfz15_1 := bf_ BK401.out 1; have hfz15_2 := bf_ BK401.out 2) | (go_at_call 35; (with_reducible refine (impl_Sea_areCells.calls a0_0 a0_1 _ _ l0_2 _ _ l2 t404 _ ?side1 ?side2 ?side3 ?side4 A8.out).mono ?_); (case side1 => repeat (first | exact (Kd.C_below HR0_2.out HB.out) | (with_reducible refine Kd.C_alloc ?_ _) | (with_reducible refine Kd.C_drewN ?_ _) | (with_reducible refine Kd.C_drew ?_))); (case side2 => exact HC0_2.out); (case side3 => repeat (first | exact (Kd.C_below HR2.out HB.out) | (with_reducible refine Kd.C_alloc ?_ _) | (with_reducible refine Kd.C_drewN ?_ _) | (with_reducible refine Kd.C_drew ?_))); (case side4 => exact HC2.out); rintro e w16 ⟨rfl, hb⟩; have n0_ := Aside0.mk (bb_ (g := gb401) (o := .cells #[.int .i64 a0_0, .int .i64 a0_1, .slice A0_2 l0_2.length c0_2] 28 (0, 0)) (by (with_reducible repeat (first | refine bN_ ?_ _ | refine bkd_ ?_ | refine bka_ ?_ _)); exact BK401.out) hb); have n1_ := Aside0.mk (bp_ (by repeat (first | (with_reducible first | exact HB.out | apply ba_ | apply pbN_ | apply bd1_ | refine bs_ ?_ GE401.out) | exact HB.out)) hb); clear BK401; clear HB; have BK401 := n0_; have HB := n1_; clear n0_ n1_; (try clear hb); (try clear hb2); (try clear hk); (try clear hi)) | ((with_reducible refine gate_dst (N := 19) rfl ?_); refine Kd.R_lit k60 _ 60 ?hg (N := 19) ?hd (xs := ([(⟨t404, 2⟩ : S60)] : List (S60))) (inner := [.bool t404, .int .i64 2]) (ok := fun _ => True) (okp := fun _ => True) ?hr ?hp (fun _ hk => hk) trivial (Below.refl _ _) (Nat.le_refl _) (by simp) ?_; (case hd => rfl); (case hg => rfl); (case hr => first | (go_simp; done) | (go_simp; rfl)); (case hp => exact (Reps.c2 (show Kd.M k60 _ _ _ (⟨t404, 2⟩ : S60) [.bool t404, .int .i64 2] from (k60_mkM _ _ _ (⟨t404, 2⟩ : S60) )) (Reps.none _ _))); intro v406 w17 ho18 hb hg_ hnew_; clear hg_ hnew_; (first | rw [← Ny405.out] at ho18 | (simp only [Int.reduceToNat] at ho18; rw [← Ny405.out] at ho18)); have n0_ := Aside0.mk (Kd.R_lower ho18 (bz_ (by repeat (first | (with_reducible first | exact HB.out | apply ba_ | apply pbN_ | apply bd1_ | refine bs_ ?_ GE401.out) | exact HB.out)))); have n1_ := Aside0.mk (bb_ (g := gb401) (o := .cells #[.int .i64 a0_0, .int .i64 a0_1, .slice A0_2 l0_2.length c0_2] 28 (0, 0)) (by (with_reducible repeat (first | refine bN_ ?_ _ | refine bkd_ ?_ | refine bka_ ?_ _)); exact BK401.out) hb); have n2_ := Aside0.mk (bp_ (by repeat (first | (with_reducible first | exact HB.out | apply ba_ | apply pbN_ | apply bd1_ | refine bs_ ?_ GE401.out) | exact HB.out)) hb); clear BK401; clear HB; have HO407 := n0_; have BK401 := n1_; have HB := n2_; clear n0_ n1_ n2_; clear hb ho18; obtain ⟨Ao19, co19, eo19⟩ := Kd.R_slice HO407.out; subst eo19) | ((with_reducible refine gate_callee (f := 33) rfl ?_); refine goesA_ (some 20) rfl rfl Try.func33 (by kernel_rfl) rfl #[.slice Ao19 y405.length co19] rfl ?_; (with_reducible refine (impl_first.calls k _ _ y405 t408 _ ?side1 ?side2 A9.out).mono ?_); (case side1 => repeat (first | exact (Kd.R_reads' HO407.out).2.2 | (with_reducible refine Kd.C_alloc ?_ _) | (with_reducible refine Kd.C_drewN ?_ _) | (with_reducible refine Kd.C_drew ?_))); (case side2 => exact (Kd.R_reads' HO407.out).2.1); rintro e w20 ⟨rfl, hb⟩; refine ⟨_, rfl, ?_⟩; have n0_ := Aside0.mk (Kd.R_below (by (with_reducible repeat (first | apply Kd.R_alloc | apply Kd.R_drewN | apply Kd.R_drew)); exact HO407.out) hb); have n1_ := Aside0.mk (bb_ (g := gb401) (o := .cells #[.int .i64 a0_0, .int .i64 a0_1, .slice A0_2 l0_2.length c0_2] 28 (0, 0)) (by (with_reducible repeat (first | refine bN_ ?_ _ | refine bkd_ ?_ | refine bka_ ?_ _)); exact BK401.out) hb); have n2_ := Aside0.mk (bp_ (by repeat (first | (with_reducible first | exact HB.out | apply ba_ | apply pbN_ | apply bd1_ | refine bs_ ?_ GE401.out) | exact HB.out)) hb); clear HO407; clear BK401; clear HB; have HO407 := n0_; have BK401 := n1_; have HB := n2_; clear n0_ n1_ n2_; (try clear hb); (try clear hb2); (try clear hk); (try clear hi)))
   go_ret
   exact ⟨by first | rfl | (simp [errW_none, errW_some] <;> rfl) | (simp [*, errW_none, errW_some] <;> rfl), by repeat (first | (with_reducible first | exact HB.out | apply ba_ | apply pbN_ | apply bd1_ | refine bs_ ?_ GE401.out) | exact HB.out)⟩
  ·replace c7 := Bool.eq_false_iff.mpr c7
   subst c7
   have H1 : ((impl_first.f k (([(⟨false, 2⟩ : S60)] : List (S60)))).bind fun t412 => (some t412)) = some r := by rw [if_neg (show ¬ (false = true) by decide)] at H; exact H
   clear H
   have H := H1
   clear H1
   obtain ⟨y409, hy409⟩ : ∃ y_ : List (S60), y_ = (([(⟨false, 2⟩ : S60)] : List (S60))) := ⟨_, rfl⟩
   replace H : ((impl_first.f k y409).bind fun t412 => (some t412)) = some r := by first | (rw [hy409]; with_reducible exact H) | (have H2_ := (Option.bind_some _ _).symm.trans H; rw [hy409]; with_reducible exact H2_) | (have H2_ := (Option.bind_some _ _).symm.trans H; with_reducible exact H2_) | with_reducible exact H | (rw [hy409]; exact H) | exact H
   have Ny409 := Aside0.mk hy409
   clear hy409
   replace H := Option.bind_eq_some_iff.mp H
   obtain ⟨t412, A210, H⟩ := H
   replace H : (some t412) = some r := H
   have A21 := Aside0.mk A210
   clear A210
   obtain rfl := Option.some.inj H
   go_enter Try.func20, Try.ntmps20
   go_wp2_with (first | ((with_reducible refine gate_dst (N := 3) rfl ?_); refine box_event ?hg (N := 3) ?hd (cs := #[.int .i64 a0_0, .int .i64 a0_1, .slice A0_2 l0_2.length c0_2]) (t := 28) ?hr ?_; (case hd => rfl); (case hg => rfl); (case hr => first | (go_simp; done) | (go_simp; rfl)); intro gb401 hg w22 hbox hb; have n0_ := Aside0.mk (bp_ hb_ hb); have n1_ := Aside0.mk (hbox); have n2_ := Aside0.mk ((by rw [hg]; exact (bz_ hb_) : w.heap.size ≤ gb401)); have n3_ := Aside0.mk ((by rw [hg]; exact (bz_ hb_) : w.heap.size ≤ gb401)); clear HB; have HB := n0_; have BK401 := n1_; have GW401 := n2_; have GE401 := n3_; clear n0_ n1_ n2_ n3_; clear hb hbox hg; have hcz23_0 : w22.cell? ⟨gb401, 0, none⟩ = some (.int .i64 a0_0) := (bc_ BK401.out 0).trans rfl; have hcz23_1 : w22.cell? ⟨gb401, 1, none⟩ = some (.int .i64 a0_1) := (bc_ BK401.out 1).trans rfl; have hcz23_2 : w22.cell? ⟨gb401, 2, none⟩ = some (.slice A0_2 l0_2.length c0_2) := (bc_ BK401.out 2).trans rfl; have hfz23_0 := bf_ BK401.out 0; have hfz23_1 := bf_ BK401.out 1; have hfz23_2 := bf_ BK401.out 2) | ((with_reducible refine gate_callee (f := 32) rfl ?_); refine goesA_ (some 8) rfl rfl Try.func32 (by kernel_rfl) rfl #[.agg #[.int .i64 a0_0, .int .i64 a0_1, .slice A0_2 l0_2.length c0_2]] rfl ?_; (with_reducible refine (impl_IsSea.calls k a0_0 a0_1 _ _ l0_2 true _ ?side1 ?side2 A4.out).mono ?_); (case side1 => repeat (first | exact (Kd.C_below HR0_2.out HB.out) | (with_reducible refine Kd.C_alloc ?_ _) | (with_reducible refine Kd.C_drewN ?_ _) | (with_reducible refine Kd.C_drew ?_))); (case side2 => exact HC0_2.out); rintro e w24 ⟨rfl, hb⟩; refine ⟨_, rfl, ?_⟩; have n0_ := Aside0.mk (bb_ (g := gb401) (o := .cells #[.int .i64 a0_0, .int .i64 a0_1, .slice A0_2 l0_2.length c0_2] 28 (0, 0)) (by (with_reducible repeat (first | refine bN_ ?_ _ | refine bkd_ ?_ | refine bka_ ?_ _)); exact BK401.out) hb); have n1_ := Aside0.mk (bp_ (by repeat (first | (with_reducible first | exact HB.out | apply ba_ | apply pbN_ | apply bd1_ | refine bs_ ?_ GE401.out) | exact HB.out)) hb); clear BK401; clear HB; have BK401 := n0_; have HB := n1_; clear n0_ n1_; (try clear hb); (try clear hb2); (try clear hk); (try clear hi); have hcz25_0 : w24.cell? ⟨gb401, 0, none⟩ = some (.int .i64 a0_0) := (bc_ BK401.out 0).trans rfl; have hcz25_1 : w24.cell? ⟨gb401, 1, none⟩ = some (.int .i64 a0_1) := (bc_ BK401.out 1).trans rfl; have hcz25_2 : w24.cell? ⟨gb401, 2, none⟩ = some (.slice A0_2 l0_2.length c0_2) := (bc_ BK401.out 2).trans rfl; have hfz25_0 := bf_ BK401.out 0; have hfz25_1 := bf_ BK401.out 1; have hfz25_2 := bf_ BK401.out 2) | ((with_reducible refine gate_callee (f := 34) rfl ?_); refine goesA_ (some 12) rfl rfl Try.func34 (by kernel_rfl) rfl #[.agg #[.int .i64 a0_0, .int .i64 a0_1, .slice A0_2 l0_2.length c0_2], .slice A1 l1.length c1] rfl ?_; (with_reducible refine (impl_Sea_isFleet.calls k a0_0 a0_1 _ _ l0_2 _ _ l1 false _ ?side1 ?side2 ?side3 ?side4 A6.out).mono ?_); (case side1 => repeat (first | exact (Kd.C_below HR0_2.out HB.out) | (with_reducible refine Kd.C_alloc ?_ _) | (with_reducible refine Kd.C_drewN ?_ _) | (with_reducible refine Kd.C_drew ?_))); (case side2 => exact HC0_2.out); (case side3 => repeat (first | exact (Kd.C_below HR1.out HB.out) | (with_reducible refine Kd.C_alloc ?_ _) | (with_reducible refine Kd.C_drewN ?_ _) | (with_reducible refine Kd.C_drew ?_))); (case side4 => exact HC1.out); rintro e w26 ⟨rfl, hb⟩; refine ⟨_, rfl, ?_⟩; have n0_ := Aside0.mk (bb_ (g := gb401) (o := .cells #[.int .i64 a0_0, .int .i64 a0_1, .slice A0_2 l0_2.length c0_2] 28 (0, 0)) (by (with_reducible repeat (first | refine bN_ ?_ _ | refine bkd_ ?_ | refine bka_ ?_ _)); exact BK401.out) hb); have n1_ := Aside0.mk (bp_ (by repeat (first | (with_reducible first | exact HB.out | apply ba_ | apply pbN_ | apply bd1_ | refine bs_ ?_ GE401.out) | exact HB.out)) hb); clear BK401; clear HB; have BK401 := n0_; have HB := n1_; clear n0_ n1_; (try clear hb); (try clear hb2); (try clear hk); (try clear hi)) | ((with_reducible refine gate_dst (N := 19) rfl ?_); refine Kd.R_lit k60 _ 60 ?hg (N := 19) ?hd (xs := ([(⟨false, 2⟩ : S60)] : List (S60))) (inner := [.bool false, .int .i64 2]) (ok := fun _ => True) (okp := fun _ => True) ?hr ?hp (fun _ hk => hk) trivial (Below.refl _ _) (Nat.le_refl _) (by simp) ?_; (case hd => rfl); (case hg => rfl); (case hr => first | (go_simp; done) | (go_simp; rfl)); (case hp => exact (Reps.c2 (show Kd.M k60 _ _ _ (⟨false, 2⟩ : S60) [.bool false, .int .i64 2] from (k60_mkM _ _ _ (⟨false, 2⟩ : S60) )) (Reps.none _ _))); intro v410 w27 ho28 hb hg_ hnew_; clear hg_ hnew_; (first | rw [← Ny409.out] at ho28 | (simp only [Int.reduceToNat] at ho28; rw [← Ny409.out] at ho28)); have n0_ := Aside0.mk (Kd.R_lower ho28 (bz_ (by repeat (first | (with_reducible first | exact HB.out | apply ba_ | apply pbN_ | apply bd1_ | refine bs_ ?_ GE401.out) | exact HB.out)))); have n1_ := Aside0.mk (bb_ (g := gb401) (o := .cells #[.int .i64 a0_0, .int .i64 a0_1, .slice A0_2 l0_2.length c0_2] 28 (0, 0)) (by (with_reducible repeat (first | refine bN_ ?_ _ | refine bkd_ ?_ | refine bka_ ?_ _)); exact BK401.out) hb); have n2_ := Aside0.mk (bp_ (by repeat (first | (with_reducible first | exact HB.out | apply ba_ | apply pbN_ | apply bd1_ | refine bs_ ?_ GE401.out) | exact HB.out)) hb); clear BK401; clear HB; have HO411 := n0_; have BK401 := n1_; have HB := n2_; clear n0_ n1_ n2_; clear hb ho28; obtain ⟨Ao29, co29, eo29⟩ := Kd.R_slice HO411.out; subst eo29) | ((with_reducible refine gate_callee (f := 33) rfl ?_); refine goesA_ (some 20) rfl rfl Try.func33 (by kernel_rfl) rfl #[.slice Ao29 y409.length co29] rfl ?_; (with_reducible refine (impl_first.calls k _ _ y409 t412 _ ?side1 ?side2 A21.out).mono ?_); (case side1 => repeat (first | exact (Kd.R_reads' HO411.out).2.2 | (with_reducible refine Kd.C_alloc ?_ _) | (with_reducible refine Kd.C_drewN ?_ _) | (with_reducible refine Kd.C_drew ?_))); (case side2 => exact (Kd.R_reads' HO411.out).2.1); rintro e w30 ⟨rfl, hb⟩; refine ⟨_, rfl, ?_⟩; have n0_ := Aside0.mk (Kd.R_below (by (with_reducible repeat (first | apply Kd.R_alloc | apply Kd.R_drewN | apply Kd.R_drew)); exact HO411.out) hb); have n1_ := Aside0.mk (bb_ (g := gb401) (o := .cells #[.int .i64 a0_0, .int .i64 a0_1, .slice A0_2 l0_2.length c0_2] 28 (0, 0)) (by (with_reducible repeat (first | refine bN_ ?_ _ | refine bkd_ ?_ | refine bka_ ?_ _)); exact BK401.out) hb); have n2_ := Aside0.mk (bp_ (by repeat (first | (with_reducible first | exact HB.out | apply ba_ | apply pbN_ | apply bd1_ | refine bs_ ?_ GE401.out) | exact HB.out)) hb); clear HO411; clear BK401; clear HB; have HO411 := n0_; have BK401 := n1_; have HB := n2_; clear n0_ n1_ n2_; (try clear hb); (try clear hb2); (try clear hk); (try clear hi)))
   go_ret
   exact ⟨by first | rfl | (simp [errW_none, errW_some] <;> rfl) | (simp [*, errW_none, errW_some] <;> rfl), by repeat (first | (with_reducible first | exact HB.out | apply ba_ | apply pbN_ | apply bd1_ | refine bs_ ?_ GE401.out) | exact HB.out)⟩
 ·replace c5 := Bool.eq_false_iff.mpr c5
  subst c5
  have H1 : (some 1) = some r := by rw [if_neg (show ¬ (false = true) by decide)] at H; exact H
  clear H
  have H := H1
  clear H1
  obtain rfl := Option.some.inj H
  go_enter Try.func20, Try.ntmps20
  go_wp2_with (first | ((with_reducible refine gate_dst (N := 3) rfl ?_); refine box_event ?hg (N := 3) ?hd (cs := #[.int .i64 a0_0, .int .i64 a0_1, .slice A0_2 l0_2.length c0_2]) (t := 28) ?hr ?_; (case hd => rfl); (case hg => rfl); (case hr => first | (go_simp; done) | (go_simp; rfl)); intro gb401 hg w31 hbox hb; have n0_ := Aside0.mk (bp_ hb_ hb); have n1_ := Aside0.mk (hbox); have n2_ := Aside0.mk ((by rw [hg]; exact (bz_ hb_) : w.heap.size ≤ gb401)); have n3_ := Aside0.mk ((by rw [hg]; exact (bz_ hb_) : w.heap.size ≤ gb401)); clear HB; have HB := n0_; have BK401 := n1_; have GW401 := n2_; have GE401 := n3_; clear n0_ n1_ n2_ n3_; clear hb hbox hg; have hcz32_0 : w31.cell? ⟨gb401, 0, none⟩ = some (.int .i64 a0_0) := (bc_ BK401.out 0).trans rfl; have hcz32_1 : w31.cell? ⟨gb401, 1, none⟩ = some (.int .i64 a0_1) := (bc_ BK401.out 1).trans rfl; have hcz32_2 : w31.cell? ⟨gb401, 2, none⟩ = some (.slice A0_2 l0_2.length c0_2) := (bc_ BK401.out 2).trans rfl; have hfz32_0 := bf_ BK401.out 0; have hfz32_1 := bf_ BK401.out 1; have hfz32_2 := bf_ BK401.out 2) | ((with_reducible refine gate_callee (f := 32) rfl ?_); refine goesA_ (some 8) rfl rfl Try.func32 (by kernel_rfl) rfl #[.agg #[.int .i64 a0_0, .int .i64 a0_1, .slice A0_2 l0_2.length c0_2]] rfl ?_; (with_reducible refine (impl_IsSea.calls k a0_0 a0_1 _ _ l0_2 false _ ?side1 ?side2 A4.out).mono ?_); (case side1 => repeat (first | exact (Kd.C_below HR0_2.out HB.out) | (with_reducible refine Kd.C_alloc ?_ _) | (with_reducible refine Kd.C_drewN ?_ _) | (with_reducible refine Kd.C_drew ?_))); (case side2 => exact HC0_2.out); rintro e w33 ⟨rfl, hb⟩; refine ⟨_, rfl, ?_⟩; have n0_ := Aside0.mk (bb_ (g := gb401) (o := .cells #[.int .i64 a0_0, .int .i64 a0_1, .slice A0_2 l0_2.length c0_2] 28 (0, 0)) (by (with_reducible repeat (first | refine bN_ ?_ _ | refine bkd_ ?_ | refine bka_ ?_ _)); exact BK401.out) hb); have n1_ := Aside0.mk (bp_ (by repeat (first | (with_reducible first | exact HB.out | apply ba_ | apply pbN_ | apply bd1_ | refine bs_ ?_ GE401.out) | exact HB.out)) hb); clear BK401; clear HB; have BK401 := n0_; have HB := n1_; clear n0_ n1_; (try clear hb); (try clear hb2); (try clear hk); (try clear hi)))
  go_ret
  exact ⟨by first | rfl | (simp [errW_none, errW_some] <;> rfl) | (simp [*, errW_none, errW_some] <;> rfl), by repeat (first | (with_reducible first | exact HB.out | apply ba_ | apply pbN_ | apply bd1_ | refine bs_ ?_ GE401.out) | exact HB.out)⟩
theorem index_l0 (x : List Int) (a : Int) (hx : x.length ≤ 9223372036854775807) : ∀ (d i : Nat), i + d = x.length → Ev (fun k => slices_Index_int64_int64.l0 k x a x.length i) (idxK (fun y => a == y) (x.drop i) i) := by
 intro d
 induction d with
 | zero =>
  intro i hi
  refine Ev.step (f := fun _ => some (-1)) (fun k => ?_) (by rw [List.drop_of_length_le (by omega)]; exact Ev.now _)
  simp only [slices_Index_int64_int64.l0]
  rw [if_neg (by omega)]
 | succ d ih =>
  intro i hi
  have hlt : i < x.length := by omega
  rw [idxK_drop _ x i hlt]
  by_cases h : a = x[i]
  ·rw [if_pos (by simp [h])]
   refine Ev.step (f := fun _ => some (i : Int)) (fun k => ?_) (Ev.now _)
   simp only [slices_Index_int64_int64.l0]
   rw [if_pos (by omega), if_pos (by omega), if_pos (by omega), rd_get x i hlt, if_pos h]
  ·rw [if_neg (by simp [h])]
   refine Ev.step (fun k => ?_) (ih (i + 1) (by omega))
   simp only [slices_Index_int64_int64.l0]
   rw [if_pos (by omega), if_pos (by omega), if_pos (by omega), rd_get x i hlt, if_neg h, wrap_next hlt (by omega)]
theorem contains_any (x : List Int) (a : Int) : (x.any fun y => a == y) = x.contains a := by
 induction x with
 | nil => rfl
 | cons b r ih => rw [List.any_cons, List.contains_cons, ih]
theorem contains_ev (x : List Int) (a : Int) (hx : x.length ≤ 9223372036854775807) : Ev (fun k => slices_Contains_int64_int64.f k x a) (x.contains a) := by
 unfold slices_Contains_int64_int64.f slices_Index_int64_int64.f
 have := index_l0 x a hx x.length 0 (by omega)
 refine Ev.bind this ?_
 rw [List.drop_zero, ← contains_any, ← idxK_any]
 exact Ev.congr (f := fun _ => some _) (fun k => by congr) (Ev.now _)
theorem asc_raise : ∀ (l : List Int) (lo lo' : Int), Asc lo l → (∀ z ∈ l, lo' ≤ z) → Asc lo' l
 | [], _, _, _, _ => trivial
 | a :: _, _, _, h, hz => ⟨hz a (List.mem_cons_self ..), h.2⟩
theorem asc_insert : ∀ (l1 l2 : List Int) (lo x : Int), Asc lo (l1 ++ l2) → (∀ z ∈ l1, z < x) → (∀ z ∈ l2, x < z) → lo ≤ x → Asc lo (l1 ++ [x] ++ l2)
 | [], l2, lo, x, h, _, h2, hx => ⟨hx, asc_raise l2 lo (x + 1) h (fun z hz => by have := h2 z hz; omega)⟩
 | a :: r, l2, lo, x, h, h1, h2, hx => ⟨h.1, asc_insert r l2 (a + 1) x h.2 (fun z hz => h1 z (List.mem_cons_of_mem _ hz)) h2 (by have := h1 a (List.mem_cons_self ..); omega)⟩
theorem asc_lt : ∀ (l : List Int) (lo : Int), Asc lo l → ∀ (i j : Nat) (hi : i < l.length) (hj : j < l.length), i < j → l[i] < l[j]
 | a :: r, lo, h, i, j + 1, hi, hj, hij => by
  cases i with
  | zero =>
   have := asc_le r (a + 1) h.2 (r[j]'(by simpa using hj)) (List.getElem_mem _)
   simp only [List.getElem_cons_zero, List.getElem_cons_succ]
   omega
  | succ i =>
   simp only [List.getElem_cons_succ]
   exact asc_lt r (a + 1) h.2 i j (by simpa using hi) (by simpa using hj) (by omega)
theorem own_val (l : List Int) (h : l.length ≤ 1000000) : spec_l01Own.f l = some l := by
 unfold spec_l01Own.f
 simp only [Option.bind_some, List.nil_append]
 rw [if_pos (by simp; omega)]
def PutOf (lo : Int) (l : List Int) (x : Int) (r : List Int) : Prop := Asc lo r ∧ r.length ≤ l.length + 1 ∧ ∀ z, z ∈ r ↔ z ∈ l ∨ z = x
theorem put_mid (lo : Int) (l : List Int) (x : Int) (n : Nat) (h : Asc lo l) (hx : lo ≤ x) (hn : n ≤ l.length) (h1 : ∀ i (hi : i < l.length), i < n → l[i] < x) (h2 : ∀ i (hi : i < l.length), n ≤ i → x < l[i]) : PutOf lo l x (l.take n ++ [x] ++ l.drop n) := by
 refine ⟨asc_insert _ _ _ _ (by rw [List.take_append_drop]; exact h) (fun z hz => ?_) (fun z hz => ?_) hx, by simp; omega, fun z => ?_⟩
 ·obtain ⟨i, hi, rfl⟩ := List.mem_iff_getElem.1 hz
  rw [List.getElem_take]
  rw [List.length_take] at hi
  exact h1 i (by omega) (by omega)
 ·obtain ⟨i, hi, rfl⟩ := List.mem_iff_getElem.1 hz
  rw [List.getElem_drop]
  rw [List.length_drop] at hi
  exact h2 (n + i) (by omega) (by omega)
 ·have := List.take_append_drop n l
  constructor
  ·intro hz
   rcases List.mem_append.1 hz with hz | hz
   ·rcases List.mem_append.1 hz with hz | hz
    ·exact .inl (List.mem_of_mem_take hz)
    ·exact .inr (List.mem_singleton.1 hz)
   ·exact .inl (List.mem_of_mem_drop hz)
  ·rintro (hz | rfl)
   ·rw [← this] at hz
    rcases List.mem_append.1 hz with hz | hz
    ·exact List.mem_append_left _ (List.mem_append_left _ hz)
    ·exact List.mem_append_right _ hz
   ·exact List.mem_append_left _ (List.mem_append_right _ (List.mem_singleton.2 rfl))
theorem put_l0 (lo : Int) (l : List Int) (x : Int) (h : Asc lo l) (hx : lo ≤ x) (hl : l.length ≤ 100000) : ∀ n, n ≤ l.length → (∀ i (hi : i < l.length), n ≤ i → x < l[i]) →
  ∃ r, Ev (fun k => spec_l01Put.l0 k l x (n : Int)) r ∧ PutOf lo l x r := by
 intro n
 induction n with
 | zero =>
  intro _ h2
  refine ⟨_, ?_, put_mid lo l x 0 h hx (by omega) (fun i _ hi => by omega) h2⟩
  refine Ev.step (f := fun _ => some _) (fun k => ?_) (Ev.now _)
  simp only [spec_l01Put.l0]
  rw [if_neg (by omega), if_pos (by omega), if_pos (by omega), own_val _ (by rw [List.length_take]; omega)]
  simp only [Option.bind_some]
  rw [if_pos (by simp), if_pos (by simp; omega)]
  rfl
 | succ m ih =>
  intro hm h2
  have hml : m < l.length := by omega
  have hw : wrap64 (((m + 1 : Nat) : Int) - 1) = (m : Int) := by unfold wrap64; omega
  have hrd : rd l (m : Int) = l[m] := rd_get l m hml
  by_cases hgt : l[m] > x
  ·obtain ⟨r, h3, h4⟩ := ih (by omega) (fun i hi hmi => by
    by_cases e : i = m
    ·subst e; exact hgt
    ·exact h2 i hi (by omega))
   refine ⟨r, Ev.step (fun k => ?_) h3, h4⟩
   simp only [spec_l01Put.l0]
   rw [if_pos (by omega), hw, if_pos (by omega), if_pos (by omega), hrd, if_pos hgt]
  ·by_cases he : l[m] = x
   ·refine ⟨l, ?_, h, by omega, fun z => ⟨.inl, ?_⟩⟩
    ·refine Ev.step (f := fun _ => some l) (fun k => ?_) (Ev.now _)
     simp only [spec_l01Put.l0]
     rw [if_pos (by omega), hw, if_pos (by omega), if_pos (by omega), hrd, if_neg hgt, if_pos he]
    ·rintro (hz | rfl)
     ·exact hz
     ·rw [← he]; exact List.getElem_mem _
   ·refine ⟨_, ?_, put_mid lo l x (m + 1) h hx (by omega) (fun i hi him => ?_) h2⟩
    ·refine Ev.step (f := fun _ => some _) (fun k => ?_) (Ev.now _)
     simp only [spec_l01Put.l0]
     rw [if_pos (by omega), hw, if_pos (by omega), if_pos (by omega), hrd, if_neg hgt, if_neg he, if_pos (by omega), if_pos (by omega), Int.toNat_natCast, own_val _ (by rw [List.length_take]; omega)]
     simp only [Option.bind_some]
     rw [if_pos (by simp; omega), if_pos (by simp; omega)]
    ·by_cases e : i = m
     ·subst e; omega
     ·have := asc_lt l lo h i m hi hml (by omega)
      omega
theorem put_ev (lo : Int) (l : List Int) (x : Int) (h : Asc lo l) (hx : lo ≤ x) (hl : l.length ≤ 100000) : ∃ r, Ev (fun k => spec_l01Put.f k l x) r ∧ PutOf lo l x r := by
 unfold spec_l01Put.f
 exact put_l0 lo l x h hx hl l.length (Nat.le_refl _) (fun i hi h1 => by omega)
theorem place_l2 {W H n y x : Nat} (hW : 1 ≤ W ∧ W ≤ 5) (hH : H ≤ 5) (hn : 1 ≤ n ∧ n ≤ 5) (hy : y < H) (hx : x < W) (xs ships : List Int) (v : List Int)
  (hfin : Ev (fun k => if (wrap64 ((x : Int) + (n : Int))) ≤ (W : Int) then ((spec_l01Put.f k xs ((rowN (W * y + x) 1 n : Nat) : Int)).bind fun t157 => (if (wrap64 ((y : Int) + (n : Int))) ≤ (H : Int) then ((spec_l01Put.f k t157 ((rowN (W * y + x) W n : Nat) : Int)).bind fun t160 => (spec_l09Placements.l1 k n t160 y (wrap64 ((x : Int) + 1)) W H ships)) else (spec_l09Placements.l1 k n t157 y (wrap64 ((x : Int) + 1)) W H ships))) else (if (wrap64 ((y : Int) + (n : Int))) ≤ (H : Int) then ((spec_l01Put.f k xs ((rowN (W * y + x) W n : Nat) : Int)).bind fun t163 => (spec_l09Placements.l1 k n t163 y (wrap64 ((x : Int) + 1)) W H ships)) else (spec_l09Placements.l1 k n xs y (wrap64 ((x : Int) + 1)) W H ships))) v) :
  ∀ d i : Nat, i + d = n → Ev (fun k => spec_l09Placements.l2 k n xs y x ((rowN (W * y + x) 1 i : Nat) : Int) ((rowN (W * y + x) W i : Nat) : Int) i W H ships) v := by
 intro d
 induction d with
 | zero =>
  intro i hi
  have e : i = n := by omega
  subst e
  refine Ev.step (fun k => ?_) hfin
  simp only [spec_l09Placements.l2]
  rw [if_neg (by omega)]
 | succ d ih =>
  intro i hi
  have hWy : W * y ≤ 5 * 4 := Nat.mul_le_mul hW.2 (by omega)
  have hiW : i * W ≤ 4 * 5 := Nat.mul_le_mul (by omega) hW.2
  obtain ⟨p, hp⟩ : ∃ p, W * y = p := ⟨_, rfl⟩
  obtain ⟨q, hq⟩ : ∃ q, i * W = q := ⟨_, rfl⟩
  have hpb : p ≤ 20 := by omega
  have hqb : q ≤ 20 := by omega
  have hxb : x ≤ 5 := by omega
  have hyb : y ≤ 5 := by omega
  have hib : i ≤ 5 := by omega
  have hin : (i : Int) < (n : Int) := by omega
  have b0 : p + x ≤ 1000 := by omega
  have b1 : p + q ≤ 1000 := by omega
  have b2 : y + i ≤ 1000 := by omega
  have b3 : p + x + i ≤ 1000 := by omega
  have b4 : p ≤ 1000 := by omega
  have b5 : x ≤ 1000 := by omega
  have b6 : i ≤ 1000 := by omega
  have b7 : y ≤ 1000 := by omega
  have u1 := u64_nat (p + x + i) (by omega)
  have u2 := u64_nat (p + x + q) (by omega)
  have s1 := shl_nat (p + x + i) (by omega)
  have s2 := shl_nat (p + x + q) (by omega)
  have b60 : ∀ a, a < 60 → 2 ^ a < 9223372036854775808 := fun a ha => Nat.lt_of_lt_of_le (Nat.pow_lt_pow_right (by omega) ha) pow60_le
  have r1 : rowN (p + x) 1 i < 9223372036854775808 := Nat.lt_of_lt_of_le (rowN_lt (p + x) 1 i 60 (fun a ha => by omega)) pow60_le
  have r2 : rowN (p + x) W i < 9223372036854775808 := Nat.lt_of_lt_of_le (rowN_lt (p + x) W i 60 (fun a ha => by
   have : a * W ≤ 4 * 5 := Nat.mul_le_mul (by omega) hW.2
   omega)) pow60_le
  have o1 : Go.bits .or .i64 ((rowN (p + x) 1 i : Nat) : Int) ((2 ^ (p + x + i) : Nat) : Int) = ((rowN (p + x) 1 (i + 1) : Nat) : Int) := by
   rw [bits_or_nat _ _ r1 (b60 _ (by omega))]
   show _ = ((rowN (p + x) 1 i ||| 2 ^ (p + x + i * 1) : Nat) : Int)
   rw [Nat.mul_one]
  have o2 : Go.bits .or .i64 ((rowN (p + x) W i : Nat) : Int) ((2 ^ (p + x + q) : Nat) : Int) = ((rowN (p + x) W (i + 1) : Nat) : Int) := by
   rw [bits_or_nat _ _ r2 (b60 _ (by omega))]
   show _ = ((rowN (p + x) W i ||| 2 ^ (p + x + i * W) : Nat) : Int)
   rw [hq]
  have ih1 := ih (i + 1) (by omega)
  rw [hp] at ih1 ⊢
  have ex : p + q + x = p + x + q := by omega
  have hyw : y * W = p := (Nat.mul_comm y W).trans hp
  have e1 : wrap64 ((y : Int) * (W : Int)) = (p : Int) := wrap_mul hyw b4
  have e2 : wrap64 (wrap64 ((p : Int) + (x : Int)) + (i : Int)) = ((p + x + i : Nat) : Int) := by rw [wrap_add b4 b5]; exact wrap_add b0 b6
  have e3 : wrap64 ((y : Int) + (i : Int)) = ((y + i : Nat) : Int) := wrap_add b7 b6
  have e4 : wrap64 (((y + i : Nat) : Int) * (W : Int)) = ((p + q : Nat) : Int) := wrap_mul (by rw [Nat.add_mul, Nat.mul_comm y W, hp, hq]) b1
  have e5 : wrap64 (((p + q : Nat) : Int) + (x : Int)) = ((p + x + q : Nat) : Int) := by rw [← ex]; exact wrap_add b1 b5
  have e6 : wrap64 ((i : Int) + 1) = ((i + 1 : Nat) : Int) := wrap_one b6
  refine Ev.step (fun k => ?_) ih1
  simp only [spec_l09Placements.l2]
  rw [if_pos hin, e1, e2, e3, e4, e5, u1, u2, if_pos (Int.natCast_nonneg _), if_pos (Int.natCast_nonneg _), s1, s2, o1, o2, e6]
def PlInv (W H n c : Nat) (xs : List Int) : Prop := Asc 0 xs ∧ xs.length ≤ 2 * c ∧ ∀ z, z ∈ xs ↔ z ∈ placeTo W H n c
theorem pl_done {W H n : Nat} {xs : List Int} (hW : 1 ≤ W ∧ W ≤ 5) (hH : H ≤ 5) (hn : 1 ≤ n) (h : PlInv W H n (W * H) xs) : xs = placesOf W H n := by
 have hp := placesOf_asc hW.1 hW.2 hH hn
 exact asc_ext _ _ 0 h.1 hp.1 (fun z => by rw [h.2.2, hp.2])
theorem place_l1 {W H n y : Nat} (hW : 1 ≤ W ∧ W ≤ 5) (hH : H ≤ 5) (hn : 1 ≤ n ∧ n ≤ 5) (hy : y < H) (ships : List Int)
  (hnext : ∀ xs, PlInv W H n (W * (y + 1)) xs → Ev (fun k => spec_l09Placements.l0 k n xs ((y + 1 : Nat) : Int) W H ships) (placesOf W H n)) :
  ∀ (d x : Nat) (xs : List Int), x + d = W → PlInv W H n (W * y + x) xs → Ev (fun k => spec_l09Placements.l1 k n xs y x W H ships) (placesOf W H n) := by
 intro d
 induction d with
 | zero =>
  intro x xs hx hI
  have e : x = W := by omega
  subst e
  have := hnext xs (by rw [Nat.mul_add, Nat.mul_one]; exact hI)
  refine Ev.step (fun k => ?_) this
  simp only [spec_l09Placements.l1]
  rw [if_neg (by omega), wrap_one (a := y) (by omega)]
 | succ d ih =>
  intro x xs hx hI
  have hxW : x < W := by omega
  have hc : W * y + x < W * H := by
   have : W * (y + 1) ≤ W * H := Nat.mul_le_mul_left W hy
   rw [Nat.mul_add, Nat.mul_one] at this
   omega
  have hcs : W * H ≤ 25 := place_small_ hW.2 hH
  have hmod : (W * y + x) % W = x := by rw [Nat.mul_add_mod, Nat.mod_eq_of_lt hxW]
  have hdiv : (W * y + x) / W = y := by rw [Nat.mul_add_div (by omega), Nat.div_eq_of_lt hxW, Nat.add_zero]
  have hat : ∀ z, z ∈ placeTo W H n (W * y + x + 1) ↔ z ∈ placeTo W H n (W * y + x) ∨ ((x + n ≤ W ∧ z = ((rowN (W * y + x) 1 n : Nat) : Int)) ∨ (y + n ≤ H ∧ z = ((rowN (W * y + x) W n : Nat) : Int))) := by
   intro z
   show z ∈ placeTo W H n (W * y + x) ++ placeAt W H n (W * y + x) ↔ _
   rw [List.mem_append]
   unfold placeAt
   rw [hmod, hdiv, List.mem_append]
   by_cases h1 : x + n ≤ W <;> by_cases h2 : y + n ≤ H <;> simp [h1, h2]
  obtain ⟨hA, hL, hM⟩ := hI
  have bx : x ≤ 1000 := by omega
  have by_ : y ≤ 1000 := by omega
  have bn : n ≤ 1000 := by omega
  have hw1 := Aside0.mk (wrap_add bx bn)
  have hw2 := Aside0.mk (wrap_add by_ bn)
  have hw3 := Aside0.mk (wrap_one bx)
  have z0 : ∀ a b m : Nat, (0 : Int) ≤ ((rowN a b m : Nat) : Int) := fun _ _ _ => Int.natCast_nonneg _
  have hnxt : ∀ ys, PlInv W H n (W * y + x + 1) ys → Ev (fun k => spec_l09Placements.l1 k n ys y (wrap64 ((x : Int) + 1)) W H ships) (placesOf W H n) := fun ys h => by
   rw [hw3.out]; exact ih (x + 1) ys (by omega) h
  refine Ev.step (fun k => ?_) (place_l2 hW hH hn hy hxW xs ships (placesOf W H n) ?_ n 0 (by omega))
  ·simp only [spec_l09Placements.l1]
   rw [if_pos (by omega)]
   rfl
  ·rw [hw1.out, hw2.out]
   by_cases h1 : x + n ≤ W
   ·obtain ⟨r1, p1, p1a, p1l, p1m⟩ := put_ev 0 xs _ hA (z0 (W * y + x) 1 n) (by omega)
    by_cases h2 : y + n ≤ H
    ·obtain ⟨r2, p2, p2a, p2l, p2m⟩ := put_ev 0 r1 _ p1a (z0 (W * y + x) W n) (by omega)
     refine Ev.congr (fun k => by rw [if_pos (by omega)]) (Ev.bind p1 (Ev.congr (fun k => by rw [if_pos (by omega)]) (Ev.bind p2 (hnxt r2 ⟨p2a, by omega, fun z => ?_⟩))))
     rw [p2m, p1m, hM, hat]; simp [h1, h2, or_assoc]
    ·refine Ev.congr (fun k => by rw [if_pos (by omega)]) (Ev.bind p1 (Ev.congr (fun k => by rw [if_neg (by omega)]) (hnxt r1 ⟨p1a, by omega, fun z => ?_⟩)))
     rw [p1m, hM, hat]; simp [h1, h2]
   ·by_cases h2 : y + n ≤ H
    ·obtain ⟨r2, p2, p2a, p2l, p2m⟩ := put_ev 0 xs _ hA (z0 (W * y + x) W n) (by omega)
     refine Ev.congr (fun k => by rw [if_neg (by omega), if_pos (by omega)]) (Ev.bind p2 (hnxt r2 ⟨p2a, by omega, fun z => ?_⟩))
     rw [p2m, hM, hat]; simp [h1, h2]
    ·refine Ev.congr (fun k => by rw [if_neg (by omega), if_neg (by omega)]) (hnxt xs ⟨hA, by omega, fun z => ?_⟩)
     rw [hM, hat]; simp [h1, h2]
theorem place_l0 {W H n : Nat} (hW : 1 ≤ W ∧ W ≤ 5) (hH : H ≤ 5) (hn : 1 ≤ n ∧ n ≤ 5) (ships : List Int) :
  ∀ (d y : Nat) (xs : List Int), y + d = H → PlInv W H n (W * y) xs → Ev (fun k => spec_l09Placements.l0 k n xs y W H ships) (placesOf W H n) := by
 intro d
 induction d with
 | zero =>
  intro y xs hy hI
  have e : y = H := by omega
  subst e
  obtain rfl := pl_done hW hH hn.1 hI
  refine Ev.step (f := fun _ => some (placesOf W y n)) (fun k => ?_) (Ev.now _)
  simp only [spec_l09Placements.l0]
  rw [if_neg (by omega)]
 | succ d ih =>
  intro y xs hy hI
  refine Ev.step (fun k => ?_) (place_l1 hW hH hn (by omega) ships (fun ys h => ih (y + 1) ys (by omega) h) W 0 xs (by omega) (by rw [Nat.add_zero]; exact hI))
  simp only [spec_l09Placements.l0]
  rw [if_pos (by omega)]
  rfl
theorem specPlacements_ev {W H n : Nat} (hW : 1 ≤ W ∧ W ≤ 5) (hH : H ≤ 5) (hn : 1 ≤ n ∧ n ≤ 5) (ships : List Int) : Ev (fun k => spec_l09Placements.f k W H ships n) (placesOf W H n) := by
 unfold spec_l09Placements.f
 exact place_l0 hW hH hn ships H 0 [] (by omega) ⟨trivial, by simp, fun z => by simp [placeTo]⟩
def laws_szInt64S.f (l0 : List Int) (a1 : Int) : Option (Int) := if (wrap64 (a1 - (l0.length : Int))) < 0 then (some (-1)) else (some (wrap64 (a1 - (l0.length : Int))))
set_option maxHeartbeats 8000000 in
set_option maxRecDepth 100000 in
theorem laws_szInt64S.calls (A0 : Option Addr) (c0 : Nat) (l0 : List Int) (a1 : Int) (r : Int) (w : World) (hr0 : Kd.C (Kd.int .i64) w A0 l0.length l0) (hc0 : l0.length ≤ c0) (h : laws_szInt64S.f l0 a1 = some r) :
  Calls Try.prog 14 #[.slice A0 l0.length c0, .int .i64 a1] w fun e w' => e = .returned (.int .i64 r) ∧ Drawn0 w w' := by
 have HR0 := Aside0.mk hr0
 have HC0 := Aside0.mk hc0
 clear hr0 hc0
 have H : (if (wrap64 (a1 - (l0.length : Int))) < 0 then (some (-1)) else (some (wrap64 (a1 - (l0.length : Int))))) = some r := h
 clear h
 by_cases c3 : (wrap64 (a1 - (l0.length : Int))) < 0
 ·rw [if_pos c3] at H
  have c3b0 : decide ((wrap64 (a1 - (l0.length : Int))) < 0) = true := decide_eq_true c3
  clear c3
  obtain rfl := Option.some.inj H
  go_enter Try.func14, Try.ntmps14
  go_wp2
  go_ret
  exact ⟨by first | rfl | (simp; done) | (simp [*]; done), by repeat (first | exact Drawn0.refl _ | apply Drawn0.step)⟩
 ·rw [if_neg c3] at H
  have c3b0 : decide ((wrap64 (a1 - (l0.length : Int))) < 0) = false := decide_eq_false c3
  clear c3
  obtain rfl := Option.some.inj H
  go_enter Try.func14, Try.ntmps14
  go_wp2
  go_ret
  exact ⟨by first | rfl | (simp; done) | (simp [*]; done), by repeat (first | exact Drawn0.refl _ | apply Drawn0.step)⟩
def laws_szSea.f (a0_0 : Int) (a0_1 : Int) (l0_2 : List Int) (a1 : Int) : Option (Int) := (laws_szInt64S.f l0_2 a1).bind fun t102 => (if t102 < 0 then (some (-1)) else (some t102))
set_option maxHeartbeats 8000000 in
set_option maxRecDepth 100000 in
theorem laws_szSea.calls (a0_0 : Int) (a0_1 : Int) (A0_2 : Option Addr) (c0_2 : Nat) (l0_2 : List Int) (a1 : Int) (r : Int) (w : World) (hr0_2 : Kd.C (Kd.int .i64) w A0_2 l0_2.length l0_2) (hc0_2 : l0_2.length ≤ c0_2) (h : laws_szSea.f a0_0 a0_1 l0_2 a1 = some r) :
  Calls Try.prog 4 #[.agg #[.int .i64 a0_0, .int .i64 a0_1, .slice A0_2 l0_2.length c0_2], .int .i64 a1] w fun e w' => e = .returned (.int .i64 r) ∧ Below w.heap.size w w' := by
 have hu24 := Try.underlying24
 have HR0_2 := Aside0.mk hr0_2
 have HC0_2 := Aside0.mk hc0_2
 clear hr0_2 hc0_2
 have HB := Aside0.mk (Below.refl w.heap.size w)
 have H : ((laws_szInt64S.f l0_2 a1).bind fun t102 => (if t102 < 0 then (some (-1)) else (some t102))) = some r := h
 clear h
 replace H := Option.bind_eq_some_iff.mp H
 obtain ⟨t102, A30, H⟩ := H
 replace H : (if t102 < 0 then (some (-1)) else (some t102)) = some r := H
 have A3 := Aside0.mk A30
 clear A30
 by_cases c4 : t102 < 0
 ·rw [if_pos c4] at H
  have c4b0 : decide (t102 < 0) = true := decide_eq_true c4
  clear c4
  obtain rfl := Option.some.inj H
  go_enter Try.func4, Try.ntmps4
  go_wp2_with (first | ((with_reducible refine gate_dst (N := 2) rfl ?_); refine box_event ?hg (N := 2) ?hd (cs := #[.int .i64 a0_0, .int .i64 a0_1, .slice A0_2 l0_2.length c0_2]) (t := 24) ?hr ?_; (case hd => rfl); (case hg => rfl); (case hr => first | (go_simp; done) | (go_simp; rfl)); intro gb101 hg w5 hbox hb; have n0_ := Aside0.mk (bp_ hb_ hb); have n1_ := Aside0.mk (hbox); have n2_ := Aside0.mk ((by rw [hg]; exact (bz_ hb_) : w.heap.size ≤ gb101)); have n3_ := Aside0.mk ((by rw [hg]; exact (bz_ hb_) : w.heap.size ≤ gb101)); clear HB; have HB := n0_; have BK101 := n1_; have GW101 := n2_; have GE101 := n3_; clear n0_ n1_ n2_ n3_; clear hb hbox hg; have hcz6_0 : w5.cell? ⟨gb101, 0, none⟩ = some (.int .i64 a0_0) := (bc_ BK101.out 0).trans rfl; have hcz6_1 : w5.cell? ⟨gb101, 1, none⟩ = some (.int .i64 a0_1) := (bc_ BK101.out 1).trans rfl; have hcz6_2 : w5.cell? ⟨gb101, 2, none⟩ = some (.slice A0_2 l0_2.length c0_2) := (bc_ BK101.out 2).trans rfl; have hfz6_0 := bf_ BK101.out 0; have hfz6_1 := bf_ BK101.out 1; have hfz6_2 := bf_ BK101.out 2) | ((with_reducible refine gate_callee (f := 14) rfl ?_); refine goesA_ (some 8) rfl rfl Try.func14 (by kernel_rfl) rfl #[.slice A0_2 l0_2.length c0_2, .int .i64 a1] rfl ?_; (with_reducible refine (laws_szInt64S.calls _ _ l0_2 a1 t102 _ ?side1 ?side2 A3.out).mono ?_); (case side1 => repeat (first | exact (Kd.C_below HR0_2.out HB.out) | (with_reducible refine Kd.C_alloc ?_ _) | (with_reducible refine Kd.C_drewN ?_ _) | (with_reducible refine Kd.C_drew ?_))); (case side2 => exact HC0_2.out); rintro e w' ⟨rfl, ⟨nd, rfl⟩⟩; refine ⟨_, rfl, ?_⟩))
  go_ret
  exact ⟨by first | rfl | (simp [errW_none, errW_some] <;> rfl) | (simp [*, errW_none, errW_some] <;> rfl), by repeat (first | (with_reducible first | exact HB.out | apply ba_ | apply pbN_ | apply bd1_ | refine bs_ ?_ GE101.out) | exact HB.out)⟩
 ·rw [if_neg c4] at H
  have c4b0 : decide (t102 < 0) = false := decide_eq_false c4
  clear c4
  obtain rfl := Option.some.inj H
  go_enter Try.func4, Try.ntmps4
  go_wp2_with (first | ((with_reducible refine gate_dst (N := 2) rfl ?_); refine box_event ?hg (N := 2) ?hd (cs := #[.int .i64 a0_0, .int .i64 a0_1, .slice A0_2 l0_2.length c0_2]) (t := 24) ?hr ?_; (case hd => rfl); (case hg => rfl); (case hr => first | (go_simp; done) | (go_simp; rfl)); intro gb101 hg w7 hbox hb; have n0_ := Aside0.mk (bp_ hb_ hb); have n1_ := Aside0.mk (hbox); have n2_ := Aside0.mk ((by rw [hg]; exact (bz_ hb_) : w.heap.size ≤ gb101)); have n3_ := Aside0.mk ((by rw [hg]; exact (bz_ hb_) : w.heap.size ≤ gb101)); clear HB; have HB := n0_; have BK101 := n1_; have GW101 := n2_; have GE101 := n3_; clear n0_ n1_ n2_ n3_; clear hb hbox hg; have hcz8_0 : w7.cell? ⟨gb101, 0, none⟩ = some (.int .i64 a0_0) := (bc_ BK101.out 0).trans rfl; have hcz8_1 : w7.cell? ⟨gb101, 1, none⟩ = some (.int .i64 a0_1) := (bc_ BK101.out 1).trans rfl; have hcz8_2 : w7.cell? ⟨gb101, 2, none⟩ = some (.slice A0_2 l0_2.length c0_2) := (bc_ BK101.out 2).trans rfl; have hfz8_0 := bf_ BK101.out 0; have hfz8_1 := bf_ BK101.out 1; have hfz8_2 := bf_ BK101.out 2) | ((with_reducible refine gate_callee (f := 14) rfl ?_); refine goesA_ (some 8) rfl rfl Try.func14 (by kernel_rfl) rfl #[.slice A0_2 l0_2.length c0_2, .int .i64 a1] rfl ?_; (with_reducible refine (laws_szInt64S.calls _ _ l0_2 a1 t102 _ ?side1 ?side2 A3.out).mono ?_); (case side1 => repeat (first | exact (Kd.C_below HR0_2.out HB.out) | (with_reducible refine Kd.C_alloc ?_ _) | (with_reducible refine Kd.C_drewN ?_ _) | (with_reducible refine Kd.C_drew ?_))); (case side2 => exact HC0_2.out); rintro e w' ⟨rfl, ⟨nd, rfl⟩⟩; refine ⟨_, rfl, ?_⟩))
  go_ret
  exact ⟨by first | rfl | (simp [errW_none, errW_some] <;> rfl) | (simp [*, errW_none, errW_some] <;> rfl), by repeat (first | (with_reducible first | exact HB.out | apply ba_ | apply pbN_ | apply bd1_ | refine bs_ ?_ GE101.out) | exact HB.out)⟩
def laws_toSea.f (k : Nat) (a0_0 : Int) (a0_1 : Int) (l0_2 : List Int) : Option (Int × Int × List Int) := (laws_toInt64S.f k l0_2).bind fun t239 => (some (a0_0, a0_1, t239))
set_option maxHeartbeats 8000000 in
set_option maxRecDepth 100000 in
theorem laws_toSea.calls (k : Nat) (a0_0 : Int) (a0_1 : Int) (A0_2 : Option Addr) (c0_2 : Nat) (l0_2 : List Int) (r1 : Int) (r2 : Int) (r3 : List Int) (w : World) (hr0_2 : Kd.C (Kd.int .i64) w A0_2 l0_2.length l0_2) (hc0_2 : l0_2.length ≤ c0_2) (h : laws_toSea.f k a0_0 a0_1 l0_2 = some (r1, r2, r3)) :
  Calls Try.prog 6 #[.agg #[.int .i64 a0_0, .int .i64 a0_1, .slice A0_2 l0_2.length c0_2]] w fun e w' => ∃ v2_ : Value, e = .returned (.agg #[.int .i64 r1, .int .i64 r2, v2_]) ∧ Kd.R (Kd.int .i64) 2 w' w.heap.size (fun _ => True) v2_ r3 ∧ Below w.heap.size w w' := by
 have hu24 := Try.underlying24
 have hu28 := Try.underlying28
 have HR0_2 := Aside0.mk hr0_2
 have HC0_2 := Aside0.mk hc0_2
 clear hr0_2 hc0_2
 have HB := Aside0.mk (Below.refl w.heap.size w)
 have H : ((laws_toInt64S.f k l0_2).bind fun t239 => (some (a0_0, a0_1, t239))) = some (r1, r2, r3) := h
 clear h
 replace H := Option.bind_eq_some_iff.mp H
 obtain ⟨t239, A20, H⟩ := H
 replace H : (some (a0_0, a0_1, t239)) = some (r1, r2, r3) := H
 have A2 := Aside0.mk A20
 clear A20
 simp only [Option.some.injEq, Prod.mk.injEq] at H
 obtain ⟨rfl, rfl, rfl⟩ := H
 go_enter Try.func6, Try.ntmps6
 go_wp2_with (first | ((with_reducible refine gate_dst (N := 1) rfl ?_); refine box_event ?hg (N := 1) ?hd (cs := #[.int .i64 a0_0, .int .i64 a0_1, .slice A0_2 l0_2.length c0_2]) (t := 24) ?hr ?_; (case hd => rfl); (case hg => rfl); (case hr => first | (go_simp; done) | (go_simp; rfl)); intro gb236 hg w3 hbox hb; have n0_ := Aside0.mk (bp_ hb_ hb); have n1_ := Aside0.mk (hbox); have n2_ := Aside0.mk ((by rw [hg]; exact (bz_ hb_) : w.heap.size ≤ gb236)); have n3_ := Aside0.mk ((by rw [hg]; exact (bz_ hb_) : w.heap.size ≤ gb236)); clear HB; have HB := n0_; have BK236 := n1_; have GW236 := n2_; have GE236 := n3_; clear n0_ n1_ n2_ n3_; clear hb hbox hg) | ((with_reducible refine gate_dst (N := 2) rfl ?_); refine box_event ?hg (N := 2) ?hd (cs := #[.int .i64 0, .int .i64 0, .slice none 0 0]) (t := 28) ?hr ?_; (case hd => rfl); (case hg => rfl); (case hr => first | (go_simp; done) | (go_simp; rfl)); intro gb237 hg w4 hbox hb; have n0_ := Aside0.mk (bb_ (g := gb236) (o := .cells #[.int .i64 a0_0, .int .i64 a0_1, .slice A0_2 l0_2.length c0_2] 24 (0, 0)) (by (with_reducible repeat (first | refine bN_ ?_ _ | refine bkd_ ?_ | refine bka_ ?_ _)); exact BK236.out) hb); have n1_ := Aside0.mk (bp_ (by repeat (first | (with_reducible first | exact HB.out | apply ba_ | apply pbN_ | apply bd1_ | refine bs_ ?_ GE236.out) | exact HB.out)) hb); have n2_ := Aside0.mk (hbox); have n3_ := Aside0.mk ((by rw [hg]; exact (bz_ (by repeat (first | (with_reducible first | exact HB.out | apply ba_ | apply pbN_ | apply bd1_ | refine bs_ ?_ GE236.out) | exact HB.out))) : w.heap.size ≤ gb237)); have n4_ := Aside0.mk ((by rw [hg]; exact (bz_ (by repeat (first | (with_reducible first | exact HB.out | apply ba_ | apply pbN_ | apply bd1_ | refine bs_ ?_ GE236.out) | exact HB.out))) : w.heap.size ≤ gb237)); have n5_ := Aside0.mk ((by rw [hg]; exact Nat.ne_of_lt (blk_lt (g := gb236) (o := .cells #[.int .i64 a0_0, .int .i64 a0_1, .slice A0_2 l0_2.length c0_2] 24 (0, 0)) (by (with_reducible repeat (first | refine bN_ ?_ _ | refine bkd_ ?_ | refine bka_ ?_ _)); exact BK236.out)) : gb236 ≠ gb237)); have n6_ := Aside0.mk ((by rw [hg]; exact Nat.ne_of_gt (blk_lt (g := gb236) (o := .cells #[.int .i64 a0_0, .int .i64 a0_1, .slice A0_2 l0_2.length c0_2] 24 (0, 0)) (by (with_reducible repeat (first | refine bN_ ?_ _ | refine bkd_ ?_ | refine bka_ ?_ _)); exact BK236.out)) : gb237 ≠ gb236)); clear BK236; clear HB; have BK236 := n0_; have HB := n1_; have BK237 := n2_; have GW237 := n3_; have GE237 := n4_; have NB236_237 := n5_; have NB237_236 := n6_; clear n0_ n1_ n2_ n3_ n4_ n5_ n6_; clear hb hbox hg) | ((with_reducible refine gate_dst (N := 3) rfl ?_); refine box_event ?hg (N := 3) ?hd (cs := #[.int .i64 0, .int .i64 0, .slice none 0 0]) (t := 28) ?hr ?_; (case hd => rfl); (case hg => rfl); (case hr => first | (go_simp; done) | (go_simp; rfl)); intro gb238 hg w5 hbox hb; have n0_ := Aside0.mk (bb_ (g := gb236) (o := .cells #[.int .i64 a0_0, .int .i64 a0_1, .slice A0_2 l0_2.length c0_2] 24 (0, 0)) (by (with_reducible repeat (first | refine bN_ ?_ _ | refine bkd_ ?_ | refine bka_ ?_ _)); exact BK236.out) hb); have n1_ := Aside0.mk (bb_ (g := gb237) (o := .cells #[.int .i64 0, .int .i64 0, .slice none 0 0] 28 (0, 0)) (by (with_reducible repeat (first | refine bN_ ?_ _ | refine bkd_ ?_ | refine bka_ ?_ _)); exact BK237.out) hb); have n2_ := Aside0.mk (bp_ (by repeat (first | (with_reducible first | exact HB.out | apply ba_ | apply pbN_ | apply bd1_ | refine bs_ ?_ GE236.out | refine bs_ ?_ GE237.out) | exact HB.out)) hb); have n3_ := Aside0.mk (hbox); have n4_ := Aside0.mk ((by rw [hg]; exact (bz_ (by repeat (first | (with_reducible first | exact HB.out | apply ba_ | apply pbN_ | apply bd1_ | refine bs_ ?_ GE236.out | refine bs_ ?_ GE237.out) | exact HB.out))) : w.heap.size ≤ gb238)); have n5_ := Aside0.mk ((by rw [hg]; exact (bz_ (by repeat (first | (with_reducible first | exact HB.out | apply ba_ | apply pbN_ | apply bd1_ | refine bs_ ?_ GE236.out | refine bs_ ?_ GE237.out) | exact HB.out))) : w.heap.size ≤ gb238)); have n6_ := Aside0.mk ((by rw [hg]; exact Nat.ne_of_lt (blk_lt (g := gb236) (o := .cells #[.int .i64 a0_0, .int .i64 a0_1, .slice A0_2 l0_2.length c0_2] 24 (0, 0)) (by (with_reducible repeat (first | refine bN_ ?_ _ | refine bkd_ ?_ | refine bka_ ?_ _)); exact BK236.out)) : gb236 ≠ gb238)); have n7_ := Aside0.mk ((by rw [hg]; exact Nat.ne_of_gt (blk_lt (g := gb236) (o := .cells #[.int .i64 a0_0, .int .i64 a0_1, .slice A0_2 l0_2.length c0_2] 24 (0, 0)) (by (with_reducible repeat (first | refine bN_ ?_ _ | refine bkd_ ?_ | refine bka_ ?_ _)); exact BK236.out)) : gb238 ≠ gb236)); have n8_ := Aside0.mk ((by rw [hg]; exact Nat.ne_of_lt (blk_lt (g := gb237) (o := .cells #[.int .i64 0, .int .i64 0, .slice none 0 0] 28 (0, 0)) (by (with_reducible repeat (first | refine bN_ ?_ _ | refine bkd_ ?_ | refine bka_ ?_ _)); exact BK237.out)) : gb237 ≠ gb238)); have n9_ := Aside0.mk ((by rw [hg]; exact Nat.ne_of_gt (blk_lt (g := gb237) (o := .cells #[.int .i64 0, .int .i64 0, .slice none 0 0] 28 (0, 0)) (by (with_reducible repeat (first | refine bN_ ?_ _ | refine bkd_ ?_ | refine bka_ ?_ _)); exact BK237.out)) : gb238 ≠ gb237)); clear BK236; clear BK237; clear HB; have BK236 := n0_; have BK237 := n1_; have HB := n2_; have BK238 := n3_; have GW238 := n4_; have GE238 := n5_; have NB236_238 := n6_; have NB238_236 := n7_; have NB237_238 := n8_; have NB238_237 := n9_; clear n0_ n1_ n2_ n3_ n4_ n5_ n6_ n7_ n8_ n9_; clear hb hbox hg; have hnb6 := NB236_237.out; have hnc6 := NB237_236.out; have hnb7 := NB236_238.out; have hnc7 := NB238_236.out; have hcz8_0 : w5.cell? ⟨gb236, 0, none⟩ = some (.int .i64 a0_0) := (bc_ BK236.out 0).trans rfl; have hcz8_1 : w5.cell? ⟨gb236, 1, none⟩ = some (.int .i64 a0_1) := (bc_ BK236.out 1).trans rfl; have hcz8_2 : w5.cell? ⟨gb236, 2, none⟩ = some (.slice A0_2 l0_2.length c0_2) := (bc_ BK236.out 2).trans rfl; have hfz8_0 := bf_ BK236.out 0; have hfz8_1 := bf_ BK236.out 1; have hfz8_2 := bf_ BK236.out 2; have hnb9 := NB238_237.out; have hnc9 := NB237_238.out; have hcz10_0 : w5.cell? ⟨gb238, 0, none⟩ = some (.int .i64 0) := (bc_ BK238.out 0).trans rfl; have hcz10_1 : w5.cell? ⟨gb238, 1, none⟩ = some (.int .i64 0) := (bc_ BK238.out 1).trans rfl; have hcz10_2 : w5.cell? ⟨gb238, 2, none⟩ = some (.slice none 0 0) := (bc_ BK238.out 2).trans rfl; have hfz10_0 := bf_ BK238.out 0; have hfz10_1 := bf_ BK238.out 1; have hfz10_2 := bf_ BK238.out 2) | ((with_reducible refine gate_callee (f := 7) rfl ?_); refine goesA_ (some 12) rfl rfl Try.func7 (by kernel_rfl) rfl #[.slice A0_2 l0_2.length c0_2] rfl ?_; (with_reducible refine (laws_toInt64S.calls k _ _ l0_2 t239 _ ?side1 ?side2 A2.out).mono ?_); (case side1 => exact Kd.C_below HR0_2.out (by repeat (first | (with_reducible first | exact HB.out | apply ba_ | apply pbN_ | apply bd1_ | refine bs_ ?_ GE236.out | refine bs_ ?_ GE237.out | refine bs_ ?_ GE238.out) | exact HB.out))); (case side2 => exact HC0_2.out); rintro e w11 ⟨v240, rfl, ho0, hb⟩; refine ⟨_, rfl, ?_⟩; have n0_ := Aside0.mk (Kd.R_lower ho0 (bz_ (by repeat (first | (with_reducible first | exact HB.out | apply ba_ | apply pbN_ | apply bd1_ | refine bs_ ?_ GE236.out | refine bs_ ?_ GE237.out | refine bs_ ?_ GE238.out) | exact HB.out)))); have n1_ := Aside0.mk (bb_ (g := gb236) (o := .cells #[.int .i64 a0_0, .int .i64 a0_1, .slice A0_2 l0_2.length c0_2] 24 (0, 0)) (by (with_reducible repeat (first | refine bN_ ?_ _ | refine bkd_ ?_ | refine bka_ ?_ _)); refine blk_far ?_ NB236_238.out _; (with_reducible repeat (first | refine bN_ ?_ _ | refine bkd_ ?_ | refine bka_ ?_ _)); refine blk_far ?_ NB236_238.out _; (with_reducible repeat (first | refine bN_ ?_ _ | refine bkd_ ?_ | refine bka_ ?_ _)); exact BK236.out) hb); have n2_ := Aside0.mk (bb_ (g := gb237) (o := .cells #[.int .i64 0, .int .i64 0, .slice none 0 0] 28 (0, 0)) (by (with_reducible repeat (first | refine bN_ ?_ _ | refine bkd_ ?_ | refine bka_ ?_ _)); refine blk_far ?_ NB237_238.out _; (with_reducible repeat (first | refine bN_ ?_ _ | refine bkd_ ?_ | refine bka_ ?_ _)); refine blk_far ?_ NB237_238.out _; (with_reducible repeat (first | refine bN_ ?_ _ | refine bkd_ ?_ | refine bka_ ?_ _)); exact BK237.out) hb); have n3_ := Aside0.mk (bb_ (g := gb238) (o := .cells #[.int .i64 a0_0, .int .i64 a0_1, .slice none 0 0] 28 (0, 0)) (by (with_reducible repeat (first | refine bN_ ?_ _ | refine bkd_ ?_ | refine bka_ ?_ _)); refine blk_put (cs := #[.int .i64 a0_0, .int .i64 0, .slice none 0 0]) ?_ 1 _ rfl; (with_reducible repeat (first | refine bN_ ?_ _ | refine bkd_ ?_ | refine bka_ ?_ _)); refine blk_put (cs := #[.int .i64 0, .int .i64 0, .slice none 0 0]) ?_ 0 _ rfl; (with_reducible repeat (first | refine bN_ ?_ _ | refine bkd_ ?_ | refine bka_ ?_ _)); exact BK238.out) hb); have n4_ := Aside0.mk (bp_ (by repeat (first | (with_reducible first | exact HB.out | apply ba_ | apply pbN_ | apply bd1_ | refine bs_ ?_ GE236.out | refine bs_ ?_ GE237.out | refine bs_ ?_ GE238.out) | exact HB.out)) hb); clear BK236; clear BK237; clear BK238; clear HB; have HO241 := n0_; have BK236 := n1_; have BK237 := n2_; have BK238 := n3_; have HB := n4_; clear n0_ n1_ n2_ n3_ n4_; (try clear hb); (try clear hb2); (try clear hk); (try clear hi); (try clear ho0); obtain ⟨Ao12, co12, eo12⟩ := Kd.R_slice HO241.out; subst eo12; have hcz13_0 : w11.cell? ⟨gb238, 0, none⟩ = some (.int .i64 a0_0) := (bc_ BK238.out 0).trans rfl; have hcz13_1 : w11.cell? ⟨gb238, 1, none⟩ = some (.int .i64 a0_1) := (bc_ BK238.out 1).trans rfl; have hcz13_2 : w11.cell? ⟨gb238, 2, none⟩ = some (.slice none 0 0) := (bc_ BK238.out 2).trans rfl; have hfz13_0 := bf_ BK238.out 0; have hfz13_1 := bf_ BK238.out 1; have hfz13_2 := bf_ BK238.out 2; have hcz14_0 : w11.cell? ⟨gb237, 0, none⟩ = some (.int .i64 0) := (bc_ BK237.out 0).trans rfl; have hcz14_1 : w11.cell? ⟨gb237, 1, none⟩ = some (.int .i64 0) := (bc_ BK237.out 1).trans rfl; have hcz14_2 : w11.cell? ⟨gb237, 2, none⟩ = some (.slice none 0 0) := (bc_ BK237.out 2).trans rfl; have hfz14_0 := bf_ BK237.out 0; have hfz14_1 := bf_ BK237.out 1; have hfz14_2 := bf_ BK237.out 2))
 refine bodyPost_ret (results_cell_row rfl _ _ gb237 28 #[.int .i64 a0_0, .int .i64 a0_1, .slice Ao12 t239.length co12] (0, 0) _ rfl (by (with_reducible repeat (first | refine bN_ ?_ _ | refine bkd_ ?_ | refine bka_ ?_ _)); refine blk_put (cs := #[.int .i64 a0_0, .int .i64 a0_1, .slice none 0 0]) ?_ 2 _ rfl; (with_reducible repeat (first | refine bN_ ?_ _ | refine bkd_ ?_ | refine bka_ ?_ _)); refine blk_put (cs := #[.int .i64 a0_0, .int .i64 0, .slice none 0 0]) ?_ 1 _ rfl; (with_reducible repeat (first | refine bN_ ?_ _ | refine bkd_ ?_ | refine bka_ ?_ _)); refine blk_put (cs := #[.int .i64 0, .int .i64 0, .slice none 0 0]) ?_ 0 _ rfl; (with_reducible repeat (first | refine bN_ ?_ _ | refine bkd_ ?_ | refine bka_ ?_ _)); refine blk_far ?_ NB237_238.out _; (with_reducible repeat (first | refine bN_ ?_ _ | refine bkd_ ?_ | refine bka_ ?_ _)); exact BK237.out) Try.underlying28 rfl (by kernel_rfl)) rfl ?_
 exact ⟨_, by first | rfl | (simp [errW_none, errW_some] <;> rfl) | (simp [*, errW_none, errW_some] <;> rfl), by (with_reducible repeat (first | apply Kd.R_alloc | apply Kd.R_drewN | apply Kd.R_drew)); exact Kd.R_mono (Kd.R_far (p := ⟨gb237, 2, none⟩) (Kd.R_far (p := ⟨gb237, 1, none⟩) (Kd.R_far (p := ⟨gb237, 0, none⟩) (Kd.R_far (p := ⟨gb238, 2, none⟩) (Kd.R_types (Kd.R_types HO241.out BK238.out (by decide)) BK237.out (by decide)) (fun _ hk => hk.1.2) (.slice Ao12 t239.length co12)) (fun _ hk => hk.2) (.int .i64 a0_0)) (fun _ hk => hk.2) (.int .i64 a0_1)) (fun _ hk => hk.2) (.slice Ao12 t239.length co12)) (fun _ hk => trivial), by repeat (first | (with_reducible first | exact HB.out | apply ba_ | apply pbN_ | apply bd1_ | refine bs_ ?_ GE236.out | refine bs_ ?_ GE237.out | refine bs_ ?_ GE238.out) | exact HB.out)⟩
theorem in_inW (n a b : Int) : spec_l01In.f n a b = some (inW n a b) := by
 unfold spec_l01In.f inW
 by_cases h : a ≤ n <;> simp [h]
theorem szInt64S_val (l : List Int) (a : Int) (hl : l.length ≤ maxLen) (h0 : 0 ≤ a) (h1 : a ≤ 1048576) : laws_szInt64S.f l a = some (if a < l.length then -1 else a - l.length) := by
 unfold maxLen at hl
 have e : wrap64 (a - (l.length : Int)) = a - l.length := by unfold wrap64; omega
 unfold laws_szInt64S.f
 rw [e]
 by_cases h : a < l.length
 ·rw [if_pos h, if_pos (by omega)]
 ·rw [if_neg h, if_neg (by omega)]
def shipsFrom (l : List Int) : Nat → Nat → Bool
 | _, 0 => true
 | i, d + 1 => inW (rd l i) 1 5 && !(decide (0 < i) && decide (rd l i > rd l ((i : Int) - 1))) && shipsFrom l (i + 1) d
def seaV (w h : Int) (l : List Int) : Bool := inW w 1 5 && inW h 1 5 && inW l.length 1 3 && shipsFrom l 0 l.length
theorem wrap_prev {i : Nat} (h0 : 0 < i) (hn : i ≤ 9223372036854775807) : wrap64 ((i : Int) - 1) = (i : Int) - 1 := by
 unfold wrap64; omega
theorem l09Is_l0 (w h : Int) (l : List Int) (hl : l.length ≤ 9223372036854775807) : ∀ (d i : Nat), i + d = l.length → Ev (fun k => spec_l09Is.l0 k i w h l) (shipsFrom l i d) := by
 intro d
 induction d with
 | zero =>
  intro i hi
  refine Ev.step (f := fun _ => some _) (fun k => ?_) (Ev.now _)
  simp only [spec_l09Is.l0]
  rw [if_neg (by omega)]; rfl
 | succ d ih =>
  intro i hi
  have hlt : i < l.length := by omega
  unfold shipsFrom
  cases he : inW (rd l i) 1 5 with
  | false =>
   refine Ev.step (f := fun _ => some _) (fun k => ?_) (Ev.now _)
   simp only [spec_l09Is.l0]
   rw [if_pos (by omega), if_pos (by omega), in_inW, he]; simp
  | true =>
   have ih1 := ih (i + 1) (by omega)
   by_cases h0 : 0 < i
   ·by_cases h1 : rd l i > rd l ((i : Int) - 1)
    ·rw [decide_eq_true h0, decide_eq_true h1]
     refine Ev.step (f := fun _ => some _) (fun k => ?_) (Ev.now _)
     simp only [spec_l09Is.l0]
     rw [if_pos (by omega), if_pos (by omega), in_inW, he, Option.bind_some, if_pos rfl, if_pos (by omega), wrap_prev h0 (by omega), if_pos (by omega), if_pos (by omega), if_pos h1]; rfl
    ·rw [decide_eq_true h0, decide_eq_false h1]
     refine Ev.step (f := fun k => spec_l09Is.l0 k ((i + 1 : Nat) : Int) w h l) (fun k => ?_) (by simpa using ih1)
     simp only [spec_l09Is.l0]
     rw [if_pos (by omega), if_pos (by omega), in_inW, he, Option.bind_some, if_pos rfl, if_pos (by omega), wrap_prev h0 (by omega), if_pos (by omega), if_pos (by omega), if_neg h1, wrap_next hlt hl]
   ·rw [decide_eq_false h0]
    refine Ev.step (f := fun k => spec_l09Is.l0 k ((i + 1 : Nat) : Int) w h l) (fun k => ?_) (by simpa using ih1)
    simp only [spec_l09Is.l0]
    rw [if_pos (by omega), if_pos (by omega), in_inW, he, Option.bind_some, if_pos rfl, if_neg (by omega), wrap_next hlt hl]
theorem implIsSea_l0 (w h : Int) (l : List Int) (hl : l.length ≤ 9223372036854775807) : ∀ (d i : Nat), i + d = l.length → Ev (fun k => impl_IsSea.l0 k l l.length i w h l) (shipsFrom l i d) := by
 intro d
 induction d with
 | zero =>
  intro i hi
  refine Ev.step (f := fun _ => some _) (fun k => ?_) (Ev.now _)
  simp only [impl_IsSea.l0]
  rw [if_neg (by omega)]; rfl
 | succ d ih =>
  intro i hi
  have hlt : i < l.length := by omega
  unfold shipsFrom
  cases he : inW (rd l i) 1 5 with
  | false =>
   refine Ev.step (f := fun _ => some _) (fun k => ?_) (Ev.now _)
   simp only [impl_IsSea.l0]
   rw [if_pos (by omega), if_pos (by omega), if_pos (by omega), within_inW, he]; simp
  | true =>
   have ih1 := ih (i + 1) (by omega)
   by_cases h0 : 0 < i
   ·by_cases h1 : rd l i > rd l ((i : Int) - 1)
    ·rw [decide_eq_true h0, decide_eq_true h1]
     refine Ev.step (f := fun _ => some _) (fun k => ?_) (Ev.now _)
     simp only [impl_IsSea.l0]
     rw [if_pos (by omega), if_pos (by omega), if_pos (by omega), within_inW, he, Option.bind_some, if_pos rfl, if_pos (by omega), wrap_prev h0 (by omega), if_pos (by omega), if_pos (by omega), if_pos h1]; rfl
    ·rw [decide_eq_true h0, decide_eq_false h1]
     refine Ev.step (f := fun k => impl_IsSea.l0 k l l.length ((i + 1 : Nat) : Int) w h l) (fun k => ?_) (by simpa using ih1)
     simp only [impl_IsSea.l0]
     rw [if_pos (by omega), if_pos (by omega), if_pos (by omega), within_inW, he, Option.bind_some, if_pos rfl, if_pos (by omega), wrap_prev h0 (by omega), if_pos (by omega), if_pos (by omega), if_neg h1, wrap_next hlt hl]
   ·rw [decide_eq_false h0]
    refine Ev.step (f := fun k => impl_IsSea.l0 k l l.length ((i + 1 : Nat) : Int) w h l) (fun k => ?_) (by simpa using ih1)
    simp only [impl_IsSea.l0]
    rw [if_pos (by omega), if_pos (by omega), if_pos (by omega), within_inW, he, Option.bind_some, if_pos rfl, if_neg (by omega), wrap_next hlt hl]
theorem l09Is_ev (w h : Int) (l : List Int) (hl : l.length ≤ 9223372036854775807) : Ev (fun k => spec_l09Is.f k w h l) (seaV w h l) := by
 unfold spec_l09Is.f seaV
 rw [in_inW, in_inW, in_inW]
 have hj : Ev (fun k => spec_l09Is.j0 k true w h l) false := Ev.step (f := fun _ => some false) (fun k => by simp only [spec_l09Is.j0]; rw [if_pos trivial]) (Ev.now _)
 cases inW w 1 5 with
 | false => exact Ev.congr (fun k => by rw [Option.bind_some, if_neg (by simp)]) hj
 | true =>
  cases inW h 1 5 with
  | false => exact Ev.congr (fun k => by rw [Option.bind_some, if_pos rfl, Option.bind_some, if_neg (by simp)]) hj
  | true =>
   cases inW l.length 1 3 with
   | false => exact Ev.congr (fun k => by rw [Option.bind_some, if_pos rfl, Option.bind_some, if_pos rfl, Option.bind_some]; rfl) hj
   | true =>
    have := l09Is_l0 w h l hl l.length 0 (by omega)
    refine Ev.congr (f := fun k => spec_l09Is.j0 k false w h l) (fun k => by rw [Option.bind_some, if_pos rfl, Option.bind_some, if_pos rfl, Option.bind_some]; rfl) (Ev.step (fun k => ?_) this)
    simp only [spec_l09Is.j0]
    rw [if_neg (by simp)]; rfl
theorem implIsSea_ev (w h : Int) (l : List Int) (hl : l.length ≤ 9223372036854775807) : Ev (fun k => impl_IsSea.f k w h l) (seaV w h l) := by
 unfold impl_IsSea.f seaV
 have hs : impl_size_int64.f l = some (l.length : Int) := rfl
 rw [within_inW, within_inW, hs]
 have hj : Ev (fun k => impl_IsSea.j0 k true w h l) false := Ev.step (f := fun _ => some false) (fun k => by simp only [impl_IsSea.j0]; rw [if_pos trivial]) (Ev.now _)
 cases inW w 1 5 with
 | false => exact Ev.congr (fun k => by rw [Option.bind_some, if_neg (by simp)]) hj
 | true =>
  cases inW h 1 5 with
  | false => exact Ev.congr (fun k => by rw [Option.bind_some, if_pos rfl, Option.bind_some, if_neg (by simp)]) hj
  | true =>
   cases h3 : inW l.length 1 3 with
   | false => exact Ev.congr (fun k => by rw [Option.bind_some, if_pos rfl, Option.bind_some, if_pos rfl, Option.bind_some, within_inW, h3, Option.bind_some]; rfl) hj
   | true =>
    have := implIsSea_l0 w h l hl l.length 0 (by omega)
    refine Ev.congr (f := fun k => impl_IsSea.j0 k false w h l) (fun k => by rw [Option.bind_some, if_pos rfl, Option.bind_some, if_pos rfl, Option.bind_some, within_inW, h3, Option.bind_some]; rfl) (Ev.step (fun k => ?_) this)
    simp only [impl_IsSea.j0]
    rw [if_neg (by simp)]; rfl
theorem szSea_ev (w h : Int) (l : List Int) (hl : l.length ≤ maxLen) : ∃ v, laws_szSea.f w h l 1048576 = some v ∧ (v = -1 ∨ 0 ≤ v ∧ l.length ≤ 1048576) := by
 unfold laws_szSea.f
 rw [szInt64S_val l 1048576 hl (by omega) (by omega), Option.bind_some]
 by_cases h : (1048576 : Int) < l.length
 ·rw [if_pos h]; exact ⟨-1, rfl, .inl rfl⟩
 ·rw [if_neg h, if_neg (by omega)]; exact ⟨_, rfl, .inr ⟨by omega, by omega⟩⟩
theorem toSea_ev (w h : Int) (l : List Int) (hl : l.length ≤ 1048576) : Ev (fun k => laws_toSea.f k w h l) (w, h, l) := by
 unfold laws_toSea.f
 exact Ev.bind (toInt64S_ev l (by omega)) (Ev.now _)
theorem eqSea_self (w h : Int) (l : List Int) (hl : l.length ≤ 1048576) : Ev (fun k => laws_eqSea.f k w h l w h l) true := by
 unfold laws_eqSea.f
 refine Ev.congr (fun k => by rw [if_pos rfl, if_pos rfl]) (Ev.bind (eqInt64S_self l (by omega)) (Ev.congr (fun k => by rw [if_pos rfl]) (Ev.now _)))
def countUp : Int → Nat → List Int
 | _, 0 => []
 | m, n + 1 => m :: countUp (m + 1) n
theorem countUp_len : ∀ (n : Nat) (m : Int), (countUp m n).length = n
 | 0, _ => rfl
 | n + 1, m => by simp [countUp, countUp_len n]
theorem countUp_get : ∀ (n : Nat) (m : Int) (i : Nat) (h : i < (countUp m n).length), (countUp m n)[i] = m + i
 | 0, m, i, h => by simp [countUp] at h
 | n + 1, m, 0, h => by simp [countUp]
 | n + 1, m, i + 1, h => by
  have := countUp_get n (m + 1) i (by simpa [countUp] using h)
  simp only [countUp, List.getElem_cons_succ]
  rw [this]; omega
theorem mark_l0 (m0 : Int) (h0 : 0 ≤ m0) : ∀ (d i : Nat) (x : List Int), i + d = x.length → m0 + x.length ≤ 4611686018427387904 → (∀ (j : Nat) (hj : j < x.length), j < i → x[j] = m0 + j) →
  Ev (fun k => laws_markInt64S.l0 k x (m0 + i) i) (m0 + x.length, countUp m0 x.length) := by
 intro d
 induction d with
 | zero =>
  intro i x hi hb hx
  have e : x = countUp m0 x.length := by
   apply List.ext_getElem
   ·rw [countUp_len]
   ·intro j h1 h2
    rw [hx j h1 (by omega), countUp_get]
  refine Ev.step (f := fun _ => some (m0 + x.length, countUp m0 x.length)) (fun k => ?_) (Ev.now _)
  simp only [laws_markInt64S.l0]
  rw [if_neg (by omega), ← e]
  have : i = x.length := by omega
  rw [this]
 | succ d ih =>
  intro i x hi hb hx
  have hlt : i < x.length := by omega
  have := ih (i + 1) (x.set i (m0 + i)) (by simp; omega) (by simpa using hb) (fun j hj hji => by
   rw [List.getElem_set]
   split
   ·rename_i e; rw [e]
   ·rename_i e; exact hx j (by simpa using hj) (by omega))
  rw [List.length_set] at this
  refine Ev.step (fun k => ?_) this
  have w1 : wrap64 (m0 + i + 1) = m0 + ((i + 1 : Nat) : Int) := by unfold wrap64; omega
  have w2 : wrap64 ((i : Int) + 1) = ((i + 1 : Nat) : Int) := by unfold wrap64; omega
  simp only [laws_markInt64S.l0]
  rw [if_pos (by omega), if_pos (by omega), w1, w2, Int.toNat_natCast]
theorem mark_ev (m : Int) (h0 : 0 ≤ m) (x : List Int) (hb : m + x.length ≤ 4611686018427387904) : Ev (fun k => laws_markInt64S.f k x m) (m + x.length, countUp m x.length) := by
 have := mark_l0 m h0 x.length 0 x (by omega) hb (fun j _ h => by omega)
 refine Ev.congr (fun k => ?_) this
 unfold laws_markInt64S.f
 simp
theorem held_l0 (m0 : Int) (h0 : 0 ≤ m0) (x : List Int) (hb : m0 + x.length ≤ 4611686018427387904) (hx : ∀ (j : Nat) (hj : j < x.length), x[j] = m0 + j) : ∀ (d i : Nat), i + d = x.length →
  Ev (fun k => laws_heldInt64S.l0 k x (m0 + i) i) (m0 + x.length) := by
 intro d
 induction d with
 | zero =>
  intro i hi
  refine Ev.step (f := fun _ => some (m0 + x.length)) (fun k => ?_) (Ev.now _)
  simp only [laws_heldInt64S.l0]
  rw [if_neg (by omega)]
  have : i = x.length := by omega
  rw [this]
 | succ d ih =>
  intro i hi
  have hlt : i < x.length := by omega
  refine Ev.step (fun k => ?_) (ih (i + 1) (by omega))
  have w1 : wrap64 (m0 + i + 1) = m0 + ((i + 1 : Nat) : Int) := by unfold wrap64; omega
  have w2 : wrap64 ((i : Int) + 1) = ((i + 1 : Nat) : Int) := by unfold wrap64; omega
  simp only [laws_heldInt64S.l0]
  rw [if_pos (by omega), if_pos (by omega), rd_get x i hlt, hx i hlt, if_pos rfl, w1, w2]
theorem held_ev (m : Int) (h0 : 0 ≤ m) (n : Nat) (hb : m + n ≤ 4611686018427387904) : Ev (fun k => laws_heldInt64S.f k (countUp m n) m) (m + n) := by
 have := held_l0 m h0 (countUp m n) (by rw [countUp_len]; exact hb) (fun j hj => countUp_get n m j hj) n 0 (by rw [countUp_len]; omega)
 rw [countUp_len] at this
 refine Ev.congr (fun k => ?_) this
 unfold laws_heldInt64S.f
 simp
theorem markSea_ev (w h : Int) (l : List Int) (hl : l.length ≤ 1048576) : Ev (fun k => laws_markSea.f k w h l 1) (1 + l.length, countUp 1 l.length) := by
 unfold laws_markSea.f
 exact Ev.bind (mark_ev 1 (by omega) l (by omega)) (Ev.now _)
theorem seaV_nat {w h : Int} {l : List Int} (hs : seaV w h l = true) : (∃ wn : Nat, w = wn ∧ 1 ≤ wn ∧ wn ≤ 5) ∧ (∃ hn : Nat, h = hn ∧ 1 ≤ hn ∧ hn ≤ 5) ∧ 1 ≤ l.length ∧ l.length ≤ 3 := by
 unfold seaV at hs
 simp only [Bool.and_eq_true] at hs
 obtain ⟨⟨⟨h1, h2⟩, h3⟩, _⟩ := hs
 unfold inW at h1 h2 h3
 simp only [Bool.and_eq_true, decide_eq_true_eq] at h1 h2 h3
 exact ⟨⟨w.toNat, by omega, by omega, by omega⟩, ⟨h.toNat, by omega, by omega, by omega⟩, by omega, by omega⟩
theorem inW_five {a : Int} (h : inW a 1 5 = true) : ∃ n : Nat, a = (n : Int) ∧ 1 ≤ n ∧ n ≤ 5 := by
 unfold inW at h
 simp only [Bool.and_eq_true, decide_eq_true_eq] at h
 exact ⟨a.toNat, by omega, by omega, by omega⟩
theorem inW_of {n : Nat} (h1 : 1 ≤ n) (h5 : n ≤ 5) : inW (n : Int) 1 5 = true := by
 unfold inW
 rw [decide_eq_true (by omega), decide_eq_true (by omega)]; rfl
theorem placesOf_len {w h n : Nat} (hw : w ≤ 5) (hh : h ≤ 5) : (placesOf w h n).length ≤ 100 := by
 unfold placesOf ascOf
 refine Nat.le_trans (Go.Lib.compact_length_le _) ?_
 rw [List.length_mergeSort]
 have h1 := placeTo_len w h n (w * h)
 have h2 := place_small_ hw hh
 omega
theorem and_or_zero (m a b : Nat) : m &&& (a ||| b) = 0 ↔ m &&& a = 0 ∧ m &&& b = 0 := by
 rw [Nat.and_or_distrib_left]
 exact Nat.or_eq_zero_iff
theorem pow25_le : 33554432 ≤ 9223372036854775808 := by simp
def numAt (fl : List Int) (j : Nat) : Nat := (rd fl (j : Int)).toNat
def UsedBy (fl : List Int) (i used : Nat) : Prop := used < 33554432 ∧ (∀ j, j < i → ∃ m : Nat, rd fl (j : Int) = (m : Int) ∧ 0 < m ∧ m < 33554432) ∧ ∀ m, m &&& used = 0 ↔ ∀ j, j < i → m &&& numAt fl j = 0
theorem used_zero (fl : List Int) : UsedBy fl 0 0 := ⟨by simp, fun j h => absurd h (Nat.not_lt_zero _), fun m => ⟨fun _ j h => absurd h (Nat.not_lt_zero _), fun _ => Nat.and_zero m⟩⟩
theorem used_step {fl : List Int} {i used m : Nat} (h : UsedBy fl i used) (hm : rd fl (i : Int) = (m : Int)) (h0 : 0 < m) (h1 : m < 33554432) : UsedBy fl (i + 1) (used ||| m) := by
 obtain ⟨h2, h3, h4⟩ := h
 refine ⟨Nat.or_lt_two_pow (n := 25) h2 h1, fun j hj => ?_, fun q => ?_⟩
 ·by_cases e : j = i
  ·subst e; exact ⟨m, hm, h0, h1⟩
  ·exact h3 j (by omega)
 ·rw [and_or_zero, h4]
  constructor
  ·rintro ⟨ha, hb⟩ j hj
   by_cases e : j = i
   ·subst e; unfold numAt; rw [hm, Int.toNat_natCast]; exact hb
   ·exact ha j (by omega)
  ·intro ha
   refine ⟨fun j hj => ha j (by omega), ?_⟩
   have := ha i (by omega)
   unfold numAt at this
   rw [hm, Int.toNat_natCast] at this
   exact this
theorem rd_take {l : List Int} {i j : Nat} (h : j < i) : rd (l.take i) (j : Int) = rd l (j : Int) := by
 rw [rd_nat, rd_nat, List.getD_eq_getElem?_getD, List.getD_eq_getElem?_getD, List.getElem?_take, if_pos h]
def nextOk (ships fl : List Int) (i : Nat) (used : Nat) : Bool := decide (numAt fl i &&& used = 0) && !(decide (0 < i) && (decide (rd ships (i : Int) = rd ships ((i : Int) - 1)) && decide (rd fl (i : Int) < rd fl ((i : Int) - 1))))
theorem next_goes {ships fl : List Int} {i used : Nat} (hu : UsedBy fl i used) (hi : i < fl.length) {m : Nat} (hm : rd fl (i : Int) = (m : Int)) (h0 : 0 < m) (h1 : m < 33554432) : goesV ships (fl.take i) (rd fl (i : Int)) = nextOk ships fl i used := by
 obtain ⟨hu0, hu1, hu2⟩ := hu
 have hnm : numAt fl i = m := by unfold numAt; rw [hm, Int.toNat_natCast]
 have hlen : (fl.take i).length = i := by rw [List.length_take]; omega
 have hany : ((fl.take i).any fun x => Go.bits .and .i64 x (m : Int) != 0) = !decide (m &&& used = 0) := by
  by_cases hz : m &&& used = 0
  ·rw [decide_eq_true hz]
   simp only [Bool.not_true]
   rw [List.any_eq_false]
   intro x hx
   obtain ⟨j, hj, rfl⟩ := List.mem_iff_getElem.1 hx
   rw [hlen] at hj
   obtain ⟨mj, e1, e2, e3⟩ := hu1 j hj
   have hz2 := (hu2 m).1 hz j hj
   unfold numAt at hz2
   rw [e1, Int.toNat_natCast] at hz2
   have e4 : (fl.take i)[j]'(by rw [hlen]; exact hj) = (mj : Int) := by
    rw [← rd_get, rd_take hj, e1]
   rw [e4, bits_and_nat _ _ (Nat.lt_of_lt_of_le e3 pow25_le) (Nat.lt_of_lt_of_le h1 pow25_le), Nat.and_comm, hz2]
   simp
  ·rw [decide_eq_false hz]
   simp only [Bool.not_false]
   have hz2 := mt (hu2 m).2 hz
   have : ∃ j, j < i ∧ ¬ (m &&& numAt fl j = 0) := by
    apply Classical.byContradiction
    intro hc
    exact hz2 (fun j hj => Classical.byContradiction fun h => hc ⟨j, hj, h⟩)
   obtain ⟨j, hj, hne⟩ := this
   obtain ⟨mj, e1, e2, e3⟩ := hu1 j hj
   unfold numAt at hne
   rw [e1, Int.toNat_natCast] at hne
   rw [List.any_eq_true]
   refine ⟨(mj : Int), ?_, ?_⟩
   ·have e4 : (fl.take i)[j]'(by rw [hlen]; exact hj) = (mj : Int) := by
     rw [← rd_get, rd_take hj, e1]
    rw [← e4]
    exact List.getElem_mem _
   ·rw [bits_and_nat _ _ (Nat.lt_of_lt_of_le e3 pow25_le) (Nat.lt_of_lt_of_le h1 pow25_le), Nat.and_comm]
    simp only [bne_iff_ne, ne_eq]
    omega
 unfold goesV nextOk goesStop
 rw [hm, hany, hlen, hnm, Bool.not_not]
 by_cases hz : m &&& used = 0
 ·rw [decide_eq_true hz, Bool.and_true, Bool.true_and]
  by_cases hi0 : 0 < i
  ·obtain ⟨p, rfl⟩ : ∃ p, i = p + 1 := ⟨i - 1, by omega⟩
   have ep : (((p + 1 : Nat) : Int) - 1) = (p : Int) := by omega
   rw [ep, rd_take (Nat.lt_succ_self p)]
   obtain ⟨mp, e1, e2, e3⟩ := hu1 p (Nat.lt_succ_self p)
   have hz2 := (hu2 m).1 hz p (Nat.lt_succ_self p)
   unfold numAt at hz2
   rw [e1, Int.toNat_natCast] at hz2
   have hne : m ≠ mp := by
    intro e
    rw [← e, Nat.and_self] at hz2
    omega
   rw [e1]
   have : decide ((m : Int) ≤ (mp : Int)) = decide ((m : Int) < (mp : Int)) := decide_eq_decide.2 (by omega)
   rw [this]
  ·rw [decide_eq_false hi0]; rfl
 ·rw [decide_eq_false hz, Bool.and_false, Bool.false_and]
def fleetFrom (W H : Nat) (ships fl : List Int) : Nat → Nat → Bool
 | _, 0 => true
 | i, d + 1 => (placesOf W H (rd ships (i : Int)).toNat).contains (rd fl (i : Int)) && goesV ships (fl.take i) (rd fl (i : Int)) && fleetFrom W H ships fl (i + 1) d
def fleetV (W H : Nat) (ships fl : List Int) : Bool := decide (fl.length = ships.length) && fleetFrom W H ships fl 0 fl.length
theorem ships_in {l : List Int} : ∀ (d i : Nat), i + d = l.length → shipsFrom l i d = true → ∀ j, i ≤ j → j < l.length → inW (rd l (j : Int)) 1 5 = true
 | 0, i, hd, _, j, h1, h2 => by omega
 | d + 1, i, hd, h, j, h1, h2 => by
  unfold shipsFrom at h
  simp only [Bool.and_eq_true] at h
  by_cases e : j = i
  ·subst e; exact h.1.1
  ·exact ships_in d (i + 1) (by omega) h.2 j (by omega) h2
theorem fleet_impl_l0 {W H : Nat} (hW : 1 ≤ W ∧ W ≤ 5) (hH : 1 ≤ H ∧ H ≤ 5) (ships fl : List Int) (hl : fl.length = ships.length) (h3 : ships.length ≤ 3) (hs : ∀ j : Nat, j < ships.length → inW (rd ships (j : Int)) 1 5 = true) :
  ∀ (d i : Nat), i + d = fl.length → Ev (fun k => impl_Sea_isFleet.l0 k fl fl fl.length i W H ships) (fleetFrom W H ships fl i d) := by
 intro d
 induction d with
 | zero =>
  intro i hi
  refine Ev.step (f := fun _ => some true) (fun k => ?_) (Ev.now _)
  simp only [impl_Sea_isFleet.l0]
  rw [if_neg (by omega)]
 | succ d ih =>
  intro i hi
  have hil : i < fl.length := by omega
  have hib : i ≤ 1000 := by omega
  obtain ⟨n, hn, hn1, hn5⟩ := inW_five (hs i (by omega))
  have hp : impl_Sea_placements.f (W : Int) (H : Int) ships (rd ships (i : Int)) = some (placesOf W H n) := by
   unfold impl_Sea_placements.f
   rw [hn, if_pos ⟨inW_of hW.1 hW.2, inW_of hH.1 hH.2, inW_of hn1 hn5⟩]
   simp only [Int.toNat_natCast]
  have hg : impl_Sea_goesOn.f (W : Int) (H : Int) ships (fl.take i) (rd fl (i : Int)) = some (goesV ships (fl.take i) (rd fl (i : Int))) := by
   unfold impl_Sea_goesOn.f
   rw [if_pos ⟨by rw [List.length_take]; omega, by omega⟩]
  have hc := contains_ev (placesOf W H n) (rd fl (i : Int)) (by have := placesOf_len (n := n) hW.2 hH.2; omega)
  have c1 : (i : Int) < (fl.length : Int) := by omega
  have c2 : (0 : Int) ≤ (i : Int) := by omega
  have c3 : (i : Int) < (ships.length : Int) := by omega
  have c4 : (i : Int) ≤ (fl.length : Int) := by omega
  have ih1 := ih (i + 1) (by omega)
  have hw := wrap_one hib
  have hu : fleetFrom W H ships fl i (d + 1) = ((placesOf W H n).contains (rd fl (i : Int)) && goesV ships (fl.take i) (rd fl (i : Int)) && fleetFrom W H ships fl (i + 1) d) := by
   show ((placesOf W H (rd ships (i : Int)).toNat).contains (rd fl (i : Int)) && goesV ships (fl.take i) (rd fl (i : Int)) && fleetFrom W H ships fl (i + 1) d) = _
   rw [hn, Int.toNat_natCast]
  rw [hu]
  refine Ev.step (f := fun k => (slices_Contains_int64_int64.f k (placesOf W H n) (rd fl (i : Int))).bind fun t419 => (if t419 = true then (if goesV ships (fl.take i) (rd fl (i : Int)) = true then (impl_Sea_isFleet.l0 k fl fl fl.length ((i + 1 : Nat) : Int) W H ships) else (some false)) else (some false))) (fun k => ?_) ?_
  ·simp only [impl_Sea_isFleet.l0]
   rw [if_pos c1, if_pos c2, if_pos c1, if_pos c3, hp, Option.bind_some, if_pos c4, Int.toNat_natCast, hg, hw]
   simp only [Option.bind_some]
  ·refine Ev.bind hc ?_
   cases (placesOf W H n).contains (rd fl (i : Int)) with
   | false => exact Ev.congr (f := fun _ => some false) (fun k => by rw [if_neg (by simp)]) (Ev.now _)
   | true =>
    cases goesV ships (fl.take i) (rd fl (i : Int)) with
    | false => exact Ev.congr (f := fun _ => some false) (fun k => by rw [if_pos rfl, if_neg (by simp)]) (Ev.now _)
    | true => exact Ev.congr (fun k => by rw [if_pos rfl, if_pos rfl]) ih1
theorem implFleet_ev {W H : Nat} (hW : 1 ≤ W ∧ W ≤ 5) (hH : 1 ≤ H ∧ H ≤ 5) (ships fl : List Int) (h3 : ships.length ≤ 3) (hs : ∀ j : Nat, j < ships.length → inW (rd ships (j : Int)) 1 5 = true) : Ev (fun k => impl_Sea_isFleet.f k W H ships fl) (fleetV W H ships fl) := by
 unfold impl_Sea_isFleet.f fleetV
 by_cases hl : fl.length = ships.length
 ·rw [decide_eq_true hl, Bool.true_and]
  exact Ev.congr (fun k => by rw [if_pos (by omega)]; rfl) (fleet_impl_l0 hW hH ships fl hl h3 hs fl.length 0 (by omega))
 ·rw [decide_eq_false hl]
  exact Ev.congr (f := fun _ => some false) (fun k => by rw [if_neg (by omega)]) (Ev.now _)
theorem fleet_l1 {W H : Nat} (ships fl P : List Int) (hP : P.length ≤ 1000) (used i : Nat) (hi : i < fl.length) (v : Bool)
  (hyes : Ev (fun k => spec_l09Fleet.l1 k fl used i true P (P.length : Nat) W H ships) v) (hno : v = false ∨ P.contains (rd fl (i : Int)) = true) :
  ∀ (d j : Nat) (b : Bool), j + d = P.length → (b = true ∨ (P.drop j).contains (rd fl (i : Int)) = P.contains (rd fl (i : Int))) → Ev (fun k => spec_l09Fleet.l1 k fl used i b P j W H ships) v := by
 intro d
 induction d with
 | zero =>
  intro j b hj hb
  have e : j = P.length := by omega
  subst e
  cases b with
  | true => exact hyes
  | false =>
   rcases hb with hb | hb
   ·cases hb
   ·rw [List.drop_length] at hb
    have hv : v = false := by
     rcases hno with h | h
     ·exact h
     ·rw [h] at hb; cases hb
    subst hv
    refine Ev.step (f := fun _ => some false) (fun k => ?_) (Ev.now _)
    simp only [spec_l09Fleet.l1]
    rw [if_neg (by omega)]
    simp
 | succ d ih =>
  intro j b hj hb
  have hjl : j < P.length := by omega
  have c1 : (j : Int) < (P.length : Int) := by omega
  have c2 : (0 : Int) ≤ (j : Int) := by omega
  have c3 : (0 : Int) ≤ (i : Int) := by omega
  have c4 : (i : Int) < (fl.length : Int) := by omega
  have hjb : j ≤ 1000 := by omega
  have hrd : rd P (j : Int) = P[j] := rd_get P j hjl
  have ih1 := fun b => ih (j + 1) b (by omega)
  have hw := wrap_one hjb
  cases b with
  | true =>
   refine Ev.step (fun k => ?_) (ih1 true (.inl rfl))
   simp only [spec_l09Fleet.l1]
   rw [if_pos c1, if_pos trivial, hw]
  | false =>
   rcases hb with hb | hb
   ·cases hb
   rw [List.drop_eq_getElem_cons hjl] at hb
   refine Ev.step (fun k => ?_) (ih1 (P[j] == rd fl (i : Int)) ?_)
   ·simp only [spec_l09Fleet.l1]
    rw [if_pos c1, if_neg (by simp), if_pos c2, if_pos c3, if_pos c4, hw, hrd]
   ·by_cases e : P[j] = rd fl (i : Int)
    ·exact .inl (beq_iff_eq.2 e)
    ·right
     rw [← hb]
     have : (rd fl (i : Int) == P[j]) = false := beq_eq_false_iff_ne.2 (fun h => e h.symm)
     simp only [List.contains_cons, this, Bool.false_or]
theorem fleet_spec_l0 {W H : Nat} (hW : 1 ≤ W ∧ W ≤ 5) (hH : 1 ≤ H ∧ H ≤ 5) (ships fl : List Int) (hl : fl.length = ships.length) (h3 : ships.length ≤ 3) (hs : ∀ j : Nat, j < ships.length → inW (rd ships (j : Int)) 1 5 = true) :
  ∀ (d i used : Nat), i + d = fl.length → UsedBy fl i used → Ev (fun k => spec_l09Fleet.l0 k fl used i W H ships) (fleetFrom W H ships fl i d) := by
 intro d
 induction d with
 | zero =>
  intro i used hi _
  refine Ev.step (f := fun _ => some true) (fun k => ?_) (Ev.now _)
  simp only [spec_l09Fleet.l0]
  rw [if_neg (by omega)]
 | succ d ih =>
  intro i used hi hu
  have hil : i < fl.length := by omega
  have hib : i ≤ 1000 := by omega
  obtain ⟨n, hn, hn1, hn5⟩ := inW_five (hs i (by omega))
  have hPe := specPlacements_ev hW hH.2 ⟨hn1, hn5⟩ ships
  have hPl : (placesOf W H n).length ≤ 1000 := by have := placesOf_len (n := n) hW.2 hH.2; omega
  have hPn := placesOf_num hW.1 hW.2 hH.2 hn1
  have hfr : fleetFrom W H ships fl i (d + 1) = ((placesOf W H n).contains (rd fl (i : Int)) && goesV ships (fl.take i) (rd fl (i : Int)) && fleetFrom W H ships fl (i + 1) d) := by
   show ((placesOf W H (rd ships (i : Int)).toNat).contains (rd fl (i : Int)) && goesV ships (fl.take i) (rd fl (i : Int)) && fleetFrom W H ships fl (i + 1) d) = _
   rw [hn, Int.toNat_natCast]
  rw [hfr]
  generalize placesOf W H n = P at hPe hPl hPn hfr ⊢
  have c1 : (i : Int) < (fl.length : Int) := by omega
  have c2 : (0 : Int) ≤ (i : Int) := by omega
  have c3 : (i : Int) < (ships.length : Int) := by omega
  have hw := Aside0.mk (wrap_one hib)
  refine Ev.step (f := fun k => (spec_l09Placements.f k W H ships (rd ships (i : Int))).bind fun t395 => (spec_l09Fleet.l1 k fl used i false t395 0 W H ships)) (fun k => ?_) ?_
  ·simp only [spec_l09Fleet.l0]
   rw [if_pos c1, if_pos c2, if_pos c3]
  rw [hn]
  refine Ev.bind hPe ?_
  cases hcon : P.contains (rd fl (i : Int)) with
  | false =>
   rw [Bool.false_and, Bool.false_and]
   have key : ∀ (d j : Nat), j + d = P.length → (P.drop j).contains (rd fl (i : Int)) = false → Ev (fun k => spec_l09Fleet.l1 k fl used i false P j W H ships) false := by
    intro d
    induction d with
    | zero =>
     intro j hj _
     refine Ev.step (f := fun _ => some false) (fun k => ?_) (Ev.now _)
     simp only [spec_l09Fleet.l1]
     rw [if_neg (by omega)]
     simp
    | succ d ihd =>
     intro j hj hb
     have hjl : j < P.length := by omega
     have d1 : (j : Int) < (P.length : Int) := by omega
     have d2 : (0 : Int) ≤ (j : Int) := by omega
     have hjb : j ≤ 1000 := by omega
     have hrd : rd P (j : Int) = P[j] := rd_get P j hjl
     rw [List.drop_eq_getElem_cons hjl, List.contains_cons, Bool.or_eq_false_iff] at hb
     have ih1 := ihd (j + 1) (by omega) hb.2
     have hne : (P[j] == rd fl (i : Int)) = false := beq_eq_false_iff_ne.2 (fun h => beq_eq_false_iff_ne.1 hb.1 h.symm)
     have hw2 := wrap_one hjb
     refine Ev.step (fun k => ?_) ih1
     simp only [spec_l09Fleet.l1]
     rw [if_pos d1, if_neg (by simp), if_pos d2, if_pos c2, if_pos c1, hw2, hrd, hne]
   exact key P.length 0 (by omega) hcon
  | true =>
   rw [Bool.true_and]
   obtain ⟨m, hm, h0, h1⟩ := hPn _ (List.contains_iff_mem.1 hcon)
   have hgo := next_goes (ships := ships) hu hil hm h0 h1
   rw [hgo]
   have ih1 := ih (i + 1) (used ||| m) (by omega) (used_step hu hm h0 h1)
   have hnm : numAt fl i = m := by unfold numAt; rw [hm, Int.toNat_natCast]
   have hbu := bits_and_nat m used (Nat.lt_of_lt_of_le h1 pow25_le) (Nat.lt_of_lt_of_le hu.1 pow25_le)
   have hbo := bits_or_nat used m (Nat.lt_of_lt_of_le hu.1 pow25_le) (Nat.lt_of_lt_of_le h1 pow25_le)
   refine fleet_l1 ships fl P hPl used i hil _ ?_ (.inr hcon) P.length 0 false (by omega) (.inr (by rw [List.drop_zero]))
   have cP : ¬ ((P.length : Nat) : Int) < (P.length : Int) := by omega
   unfold nextOk
   rw [hnm]
   by_cases hz : m &&& used = 0
   ·rw [decide_eq_true hz, Bool.true_and]
    by_cases hi0 : 0 < i
    ·rw [decide_eq_true hi0, Bool.true_and]
     obtain ⟨p, hp⟩ : ∃ p, i = p + 1 := ⟨i - 1, by omega⟩
     have ep : ((i : Int) - 1) = (p : Int) := by omega
     have e0 : (i : Int) > 0 := by omega
     have e1 : (0 : Int) ≤ (p : Int) := by omega
     have e2 : (p : Int) < (ships.length : Int) := by omega
     have e3 : (p : Int) < (fl.length : Int) := by omega
     have hwp := wrap_num (n := p) (by omega)
     rw [ep]
     by_cases hse : rd ships (i : Int) = rd ships (p : Int)
     ·rw [decide_eq_true hse, Bool.true_and]
      by_cases hlt : rd fl (i : Int) < rd fl (p : Int)
      ·rw [decide_eq_true hlt]
       refine Ev.step (f := fun _ => some false) (fun k => ?_) (Ev.now _)
       simp only [spec_l09Fleet.l1]
       rw [if_neg cP, if_pos trivial, if_pos c2, if_pos c1, hm, hbu, hz, if_pos (by simp), if_pos e0, if_pos c3, ep, hwp, if_pos e1, if_pos e2, if_pos hse, if_pos e3, if_pos (by rw [← hm]; exact hlt)]
      ·rw [decide_eq_false hlt, Bool.not_false, Bool.true_and]
       refine Ev.step (fun k => ?_) ih1
       simp only [spec_l09Fleet.l1]
       rw [if_neg cP, if_pos trivial, if_pos c2, if_pos c1, hm, hbu, hz, if_pos (by simp), if_pos e0, if_pos c3, ep, hwp, if_pos e1, if_pos e2, if_pos hse, if_pos e3, if_neg (by rw [← hm]; exact hlt), hbo, hw.out]
     ·rw [decide_eq_false hse, Bool.false_and, Bool.not_false, Bool.true_and]
      refine Ev.step (fun k => ?_) ih1
      simp only [spec_l09Fleet.l1]
      rw [if_neg cP, if_pos trivial, if_pos c2, if_pos c1, hm, hbu, hz, if_pos (by simp), if_pos e0, if_pos c3, ep, hwp, if_pos e1, if_pos e2, if_neg hse, hbo, hw.out]
    ·rw [decide_eq_false hi0, Bool.false_and, Bool.not_false, Bool.true_and]
     have e0 : ¬ (i : Int) > 0 := by omega
     refine Ev.step (fun k => ?_) ih1
     simp only [spec_l09Fleet.l1]
     rw [if_neg cP, if_pos trivial, if_pos c2, if_pos c1, hm, hbu, hz, if_pos (by simp), if_neg e0, hbo, hw.out]
   ·rw [decide_eq_false hz, Bool.false_and, Bool.false_and]
    refine Ev.step (f := fun _ => some false) (fun k => ?_) (Ev.now _)
    simp only [spec_l09Fleet.l1]
    rw [if_neg cP, if_pos trivial, if_pos c2, if_pos c1, hm, hbu, if_neg (by omega)]
theorem specFleet_ev {W H : Nat} (hW : 1 ≤ W ∧ W ≤ 5) (hH : 1 ≤ H ∧ H ≤ 5) (ships fl : List Int) (h3 : ships.length ≤ 3) (hs : ∀ j : Nat, j < ships.length → inW (rd ships (j : Int)) 1 5 = true) : Ev (fun k => spec_l09Fleet.f k W H ships fl) (fleetV W H ships fl) := by
 unfold spec_l09Fleet.f fleetV
 by_cases hl : fl.length = ships.length
 ·rw [decide_eq_true hl, Bool.true_and]
  exact Ev.congr (fun k => by rw [if_pos (by omega)]; rfl) (fleet_spec_l0 hW hH ships fl hl h3 hs fl.length 0 0 (by omega) (used_zero fl))
 ·rw [decide_eq_false hl]
  exact Ev.congr (f := fun _ => some false) (fun k => by rw [if_neg (by omega)]) (Ev.now _)
theorem placeAt_bound {w h n c : Nat} (hw : 1 ≤ w) (hc : c < w * h) : ∀ z ∈ placeAt w h n c, ∃ m : Nat, z = (m : Int) ∧ m < 2 ^ (w * h) := by
 intro z hz
 unfold placeAt at hz
 have hdm := Nat.div_add_mod c w
 have hml := Nat.mod_lt c (show 0 < w by omega)
 have hdh : c / w < h := Nat.div_lt_of_lt_mul hc
 generalize c / w = y at *
 generalize c % w = x at *
 have hwy : w * (y + 1) ≤ w * h := Nat.mul_le_mul_left w hdh
 rw [Nat.mul_add, Nat.mul_one] at hwy
 rcases List.mem_append.1 hz with hz | hz
 ·split at hz
  ·rw [List.mem_singleton] at hz
   subst hz
   refine ⟨_, rfl, rowN_lt c 1 n (w * h) fun i hi => ?_⟩
   omega
  ·cases hz
 ·split at hz
  ·rw [List.mem_singleton] at hz
   subst hz
   refine ⟨_, rfl, rowN_lt c w n (w * h) fun i hi => ?_⟩
   rename_i hyn
   have h1 : w * (y + i + 1) ≤ w * h := Nat.mul_le_mul_left w (by omega)
   rw [Nat.mul_add, Nat.mul_add, Nat.mul_one, Nat.mul_comm w i] at h1
   omega
  ·cases hz
theorem placeTo_bound {w h n : Nat} (hw : 1 ≤ w) : ∀ k, k ≤ w * h → ∀ z ∈ placeTo w h n k, ∃ m : Nat, z = (m : Int) ∧ m < 2 ^ (w * h)
 | 0, _, z, hz => by cases hz
 | k + 1, hk, z, hz => by
  rcases List.mem_append.1 hz with hz | hz
  ·exact placeTo_bound hw k (by omega) z hz
  ·exact placeAt_bound hw (by omega) z hz
theorem placesOf_bound {w h n : Nat} (hw : 1 ≤ w) (hw5 : w ≤ 5) (hh : h ≤ 5) (hn : 1 ≤ n) : ∀ z ∈ placesOf w h n, ∃ m : Nat, z = (m : Int) ∧ m < 2 ^ (w * h) :=
 fun z hz => placeTo_bound hw _ (Nat.le_refl _) z (((placesOf_asc hw hw5 hh hn).2 z).1 hz)
theorem first_one (b : Bool) : Ev (fun k => impl_first.f k [⟨b, 2⟩]) (if b = true then 0 else 2) := by
 refine ⟨4, fun k hk => ?_⟩
 obtain ⟨k', rfl⟩ : ∃ k', k = k' + 4 := ⟨k - 4, by omega⟩
 have w1 : wrap64 1 = 1 := by unfold wrap64; omega
 have r0 : ∀ u : S60, rd_T60 [u] 0 = u := fun _ => rfl
 cases b <;> simp [impl_first.f, impl_first.l0, w1, r0]
def codeV (w h : Int) (l fl : List Int) : Int := if seaV w h l = true then (if fleetV w.toNat h.toNat l fl = true then 0 else 2) else 1
theorem sea_ships {w h : Int} {l : List Int} (hs : seaV w h l = true) : ∀ j : Nat, j < l.length → inW (rd l (j : Int)) 1 5 = true := by
 have hsh : shipsFrom l 0 l.length = true := by
  unfold seaV at hs
  simp only [Bool.and_eq_true] at hs
  exact hs.2
 exact fun j hj => ships_in l.length 0 (by omega) hsh j (Nat.zero_le _) hj
theorem specCode_ev (w h : Int) (l fl : List Int) (hl : l.length ≤ 1048576) : Ev (fun k => spec_l09Code.f k w h l fl) (codeV w h l fl) := by
 have e1 := l09Is_ev w h l (by omega)
 unfold spec_l09Code.f codeV
 cases hs : seaV w h l with
 | false =>
  rw [hs] at e1
  rw [if_neg (by simp)]
  exact Ev.bind e1 (Ev.congr (fun k => by rw [if_neg (by simp)]) (Ev.now _))
 | true =>
  rw [hs] at e1
  obtain ⟨⟨wn, rfl, hw1, hw5⟩, ⟨hn', rfl, hh1, hh5⟩, _, h3⟩ := seaV_nat hs
  have e2 := specFleet_ev ⟨hw1, hw5⟩ ⟨hh1, hh5⟩ l fl h3 (sea_ships hs)
  simp only [Int.toNat_natCast]
  rw [if_pos trivial]
  refine Ev.bind e1 (Ev.congr (fun k => by rw [if_pos rfl]) (Ev.bind e2 ?_))
  by_cases hfv : fleetV wn hn' l fl = true
  ·simp only [hfv, if_true]; exact Ev.now _
  ·simp only [hfv, if_false, Bool.false_eq_true]; exact Ev.now _
theorem implCode_ev (w h : Int) (l fl : List Int) (hl : l.length ≤ 1048576) : Ev (fun k => impl_fleetCode.f k w h l fl []) (codeV w h l fl) := by
 have e1 := implIsSea_ev w h l (by omega)
 unfold impl_fleetCode.f codeV
 cases hs : seaV w h l with
 | false =>
  rw [hs] at e1
  rw [if_neg (by simp)]
  exact Ev.bind e1 (Ev.congr (fun k => by rw [if_neg (by simp)]) (Ev.now _))
 | true =>
  rw [hs] at e1
  obtain ⟨⟨wn, rfl, hw1, hw5⟩, ⟨hn', rfl, hh1, hh5⟩, _, h3⟩ := seaV_nat hs
  have e2 := implFleet_ev ⟨hw1, hw5⟩ ⟨hh1, hh5⟩ l fl h3 (sea_ships hs)
  have hc : impl_Sea_areCells.f (wn : Int) (hn' : Int) l [] = some true := by
   unfold impl_Sea_areCells.f
   rw [if_pos (by simp), List.mergeSort_nil]; rfl
  have e3 := first_one true
  have e4 := first_one false
  simp only [Int.toNat_natCast]
  rw [if_pos trivial]
  refine Ev.bind e1 (Ev.congr (fun k => by rw [if_pos rfl]) (Ev.bind e2 ?_))
  by_cases hfv : fleetV wn hn' l fl = true
  ·rw [if_pos hfv]; exact Ev.congr (fun k => by rw [if_pos hfv, hc, Option.bind_some]) (Ev.bind e3 (Ev.now _))
  ·rw [if_neg hfv]; exact Ev.congr (fun k => by rw [if_neg hfv]) (Ev.bind e4 (Ev.now _))
theorem fleet_mem {W H : Nat} {ships fl : List Int} : ∀ (d i : Nat), i + d = fl.length → fleetFrom W H ships fl i d = true → ∀ j, i ≤ j → j < fl.length → rd fl (j : Int) ∈ placesOf W H (rd ships (j : Int)).toNat
 | 0, i, hd, _, j, h1, h2 => by omega
 | d + 1, i, hd, h, j, h1, h2 => by
  unfold fleetFrom at h
  simp only [Bool.and_eq_true] at h
  by_cases e : j = i
  ·subst e; exact List.contains_iff_mem.1 h.1.1
  ·exact fleet_mem d (i + 1) (by omega) h.2 j (by omega) h2
theorem code_zero {w h : Int} {l fl : List Int} (h0 : codeV w h l fl = 0) : ∃ wn hn : Nat, w = wn ∧ h = hn ∧ 1 ≤ wn ∧ wn ≤ 5 ∧ 1 ≤ hn ∧ hn ≤ 5 ∧ l.length ≤ 3 ∧ fl.length = l.length ∧ ∀ x ∈ fl, ∃ m : Nat, x = (m : Int) ∧ m < 2 ^ (wn * hn) := by
 unfold codeV at h0
 by_cases hs : seaV w h l = true
 ·rw [if_pos hs] at h0
  obtain ⟨⟨wn, rfl, hw1, hw5⟩, ⟨hn', rfl, hh1, hh5⟩, _, h3⟩ := seaV_nat hs
  simp only [Int.toNat_natCast] at h0
  by_cases hf : fleetV wn hn' l fl = true
  ·unfold fleetV at hf
   simp only [Bool.and_eq_true, decide_eq_true_eq] at hf
   refine ⟨wn, hn', rfl, rfl, hw1, hw5, hh1, hh5, h3, hf.1, fun x hx => ?_⟩
   obtain ⟨j, hj, rfl⟩ := List.mem_iff_getElem.1 hx
   have hm := fleet_mem fl.length 0 (by omega) hf.2 j (Nat.zero_le _) hj
   obtain ⟨n, hn, hn1, hn5⟩ := inW_five (sea_ships hs j (by omega))
   rw [hn, Int.toNat_natCast, rd_get _ _ hj] at hm
   exact placesOf_bound hw1 hw5 hh5 hn1 _ hm
  ·rw [if_neg hf] at h0; omega
 ·rw [if_neg hs] at h0; omega
def fleetsOf (w h : Int) (l : List Int) : List (List Int) := fleetsFrom w.toNat h.toNat l l.length []
def impl_CountFleets.f (k : Nat) (a0_0 a0_1 : Int) (l0_2 : List Int) : Option (Int × Int) := (impl_IsSea.f k a0_0 a0_1 l0_2).bind fun b => if b = true then (if seaV a0_0 a0_1 l0_2 = true then some (((fleetsOf a0_0 a0_1 l0_2).length : Int), 0) else none) else some (0, 1)
theorem flat_le {α β : Type} (F : α → List β) (n : Nat) : ∀ P : List α, (∀ x ∈ P, (F x).length ≤ n) → (P.flatMap F).length ≤ P.length * n
 | [], _ => by simp
 | x :: P, h => by
  rw [List.flatMap_cons, List.length_append, List.length_cons, Nat.succ_mul]
  have h1 := h x (List.mem_cons_self ..)
  have h2 := flat_le F n P (fun y hy => h y (List.mem_cons_of_mem _ hy))
  omega
theorem fleets_len (W0 H0 : Nat) (ships : List Int) (hpl : ∀ j, (placeOf W0 H0 ships j).length ≤ 100) : ∀ (d : Nat) (list : List Int), (fleetsFrom W0 H0 ships d list).length ≤ 100 ^ d
 | 0, _ => by simp [fleetsFrom]
 | d + 1, list => by
  show ((placeOf W0 H0 ships list.length).flatMap _).length ≤ _
  refine Nat.le_trans (flat_le _ (100 ^ d) _ (fun x _ => ?_)) ?_
  ·split
   ·exact fleets_len W0 H0 ships hpl d _
   ·simp
  ·rw [Nat.pow_succ, Nat.mul_comm]
   exact Nat.mul_le_mul_left _ (hpl _)
def CountI (gb : Nat) (i : Nat) (M : Nat → Prop) (W : World) : Prop := M = (fun k => k = gb) ∧ W.heap[gb]? = some (.cells #[.int .i64 (i : Int)] 2 (0, 0))
set_option maxHeartbeats 2000000 in
theorem count_call (gb i c n : Nat) (A : Option Addr) (W : World) (hi : i < 9223372036854775000) (h : W.heap[gb]? = some (.cells #[.int .i64 (i : Int)] 2 (0, 0))) :
  Calls Try.prog 55 #[.slice A n c, .pointer (some ⟨gb, 0, none⟩)] W fun e w' => e = .returned (.tuple #[]) ∧ w'.heap[gb]? = some (.cells #[.int .i64 ((i + 1 : Nat) : Int)] 2 (0, 0)) ∧ ∃ v, w' = W.setCell ⟨gb, 0, none⟩ v := by
 have hc := (bc_ h 0).trans rfl
 have hfz := bf_ h 0
 have hw : wrap64 ((i : Int) + 1) = ((i + 1 : Nat) : Int) := by rw [show (i : Int) + 1 = ((i + 1 : Nat) : Int) by omega]; unfold wrap64; omega
 obtain ⟨z, hz⟩ : ∃ z : Int, ((i + 1 : Nat) : Int) = z := ⟨_, rfl⟩
 rw [hz] at hw ⊢
 clear hz
 have HX := Aside0.mk h
 clear h hi
 go_enter Try.func55, Try.ntmps55
 go_wp2_with (first | ((with_reducible refine gate_store (t := 2) (p := 1) rfl ?_); refine store_event (t := 2) (p := 1) (v := .tmp 4) (w1 := (W.setCell ⟨gb, 0, none⟩ (.int .i64 z))) ?hg ?ho ?hn ?hr ?_; (case ho => rfl); (case hg => rfl); (case hn => rfl); (case hr => first | (go_simp; done) | (go_simp; rfl)); intro w5 hw5; have HW5 := Aside0.mk hw5; clear hw5))
 go_end0
 exact ⟨rfl, by rw [HW5.out]; exact blk_put HX.out 0 _ rfl, _, HW5.out⟩
theorem count_ok (gb : Nat) (fleets : List (List Int)) (hf : fleets.length ≤ 1000000) : EachOk 0 55 #[.pointer (some ⟨gb, 0, none⟩)] fleets (CountI gb) where
 stay := fun i M W W' h hb => ⟨h.1, bb_ h.2 hb⟩
 own := fun i M W h k hk => by rw [h.1] at hk; subst hk; exact blk_lt h.2
 call := fun i M W A c list h hl _ _ _ => by
  have hi := (List.getElem?_eq_some_iff.1 hl).1
  refine (count_call gb i c list.length A W (by omega) h.2).mono ?_
  rintro e w' ⟨rfl, h1, v, rfl⟩
  refine ⟨rfl, M, ⟨h.1, h1⟩, rfl, rfl, rfl, by simp [World.setCell], fun k hk hm => Below.heap_setCell W ⟨gb, 0, none⟩ v k (by rw [h.1] at hm; exact hm), fun _ hk => .inl hk⟩
theorem placeOf_len {W0 H0 : Nat} (hw : W0 ≤ 5) (hh : H0 ≤ 5) (ships : List Int) (j : Nat) : (placeOf W0 H0 ships j).length ≤ 100 := placesOf_len hw hh
theorem count_each (W0 H0 : Nat) (ships : List Int) (A2 : Option Addr) (c2 gb : Nat) (hw : 1 ≤ W0 ∧ W0 ≤ 5) (hh : 1 ≤ H0 ∧ H0 ≤ 5) (hsz : 1 ≤ ships.length ∧ ships.length ≤ 3) (hsin : ∀ j : Nat, j < ships.length → inW (rd ships (j : Int)) 1 5 = true) (hsc : ships.length ≤ c2)
  (w W : World) (hB : Below w.heap.size w W) (hR : Kd.C (Kd.int .i64) w A2 ships.length ships) (hY : W.heap[gb]? = some (.cells #[.int .i64 0] 2 (0, 0))) (hg : w.heap.size ≤ gb) (hcl : ∀ a, A2 = some a → 0 < ships.length → a.block < gb) :
  Calls Try.prog 37 #[.agg #[.int .i64 (W0 : Int), .int .i64 (H0 : Int), .slice A2 ships.length c2], .func (.func 55) #[] #[.pointer (some ⟨gb, 0, none⟩)]] W fun e w' => e = .returned (.tuple #[]) ∧ w'.heap[gb]? = some (.cells #[.int .i64 ((fleetsFrom W0 H0 ships ships.length []).length : Int)] 2 (0, 0)) ∧ Below w.heap.size w w' := by
 have eg66 : ∀ args w, (callFunc 55 args).run Try.prog w = .ok (.enter 55 args) w := enters_of Try.func55 (by kernel_rfl) rfl
 have hpl := placeOf_len (W0 := W0) (H0 := H0) hw.2 hh.2 ships
 have hlen := fleets_len W0 H0 ships hpl ships.length []
 have h3 : 100 ^ ships.length ≤ 100 ^ 3 := Nat.pow_le_pow_right (by omega) hsz.2
 have hfl : (fleetsFrom W0 H0 ships ships.length []).length ≤ 1000000 := Nat.le_trans hlen (Nat.le_trans h3 (by simp))
 have hgW : gb < W.heap.size := blk_lt hY
 have hclr : Clear (fun k => k = gb) W A2 ships := ⟨Kd.C_below hR hB, fun h0 a ha => by
  have := hcl a ha h0
  exact ⟨by omega, fun e => by omega⟩⟩
 refine (impl_Sea_eachFleet.does W0 H0 ships A2 c2 55 #[.pointer (some ⟨gb, 0, none⟩)] (CountI gb) 0 eg66 (count_ok gb _ hfl) hw hh hsz hsin hsc hpl W (Nat.zero_le _) (fun k => k = gb) ⟨rfl, hY⟩ hclr).mono ?_
 rintro e w' ⟨rfl, M', hi, hf⟩
 refine ⟨rfl, hi.2, hf.1.trans hB.os, hf.2.1.trans hB.tape, hf.2.2.1.trans hB.output, Nat.le_trans hB.size hf.2.2.2.1, fun k hk => ?_⟩
 rw [hf.2.2.2.2.1 k (Nat.lt_of_lt_of_le hk hB.size) (by omega)]
 exact hB.block k hk
set_option maxHeartbeats 4000000 in
set_option maxRecDepth 100000 in
theorem impl_CountFleets.calls (k : Nat) (a0_0 a0_1 : Int) (A0_2 : Option Addr) (c0_2 : Nat) (l0_2 : List Int) (r1 r2 : Int) (w : World) (hr0_2 : Kd.C (Kd.int .i64) w A0_2 l0_2.length l0_2) (hc0_2 : l0_2.length ≤ c0_2) (h : impl_CountFleets.f k a0_0 a0_1 l0_2 = some (r1, r2)) :
  Calls Try.prog 36 #[.agg #[.int .i64 a0_0, .int .i64 a0_1, .slice A0_2 l0_2.length c0_2]] w fun e w' => e = .returned (.tuple #[.int .i64 r1, .int .i64 r2]) ∧ Below w.heap.size w w' := by
 unfold impl_CountFleets.f at h
 obtain ⟨b, hb0, h⟩ := Option.bind_eq_some_iff.1 h
 have HIS := Aside0.mk hb0
 have HB := Aside0.mk (Below.refl w.heap.size w)
 have HR := Aside0.mk hr0_2
 have HRw := Aside0.mk hr0_2
 have HC := Aside0.mk hc0_2
 have hu28 := Try.underlying28
 clear hr0_2 hc0_2 hb0
 cases b with
 | false =>
  rw [if_neg (by simp)] at h
  simp only [Option.some.injEq, Prod.mk.injEq] at h
  obtain ⟨rfl, rfl⟩ := h
  go_enter Try.func36, Try.ntmps36
  go_wp2_with (first | ((with_reducible refine gate_dst (N := 1) rfl ?_); refine box_event ?hg (N := 1) ?hd (cs := #[.int .i64 a0_0, .int .i64 a0_1, .slice A0_2 l0_2.length c0_2]) (t := 28) ?hr ?_; (case hd => rfl); (case hg => rfl); (case hr => first | (go_simp; done) | (go_simp; rfl)); intro g1 hg1 w1 hbox hb; have HX := Aside0.mk hbox; have HG1 := Aside0.mk (show w.heap.size ≤ g1 by omega); have n2_ := Aside0.mk (bp_ HB.out hb); have n3_ := Aside0.mk (Kd.C_below HR.out hb); clear hbox hb hg1 HB HR; have HB := n2_; have HR := n3_; clear n2_ n3_; have hs0 := (bc_ HX.out 0).trans rfl; have hs1 := (bc_ HX.out 1).trans rfl; have hs2 := (bc_ HX.out 2).trans rfl) | (go_at_call 32; refine (impl_IsSea.calls k a0_0 a0_1 A0_2 c0_2 l0_2 _ _ HR.out HC.out HIS.out).mono ?_; rintro e w3 ⟨rfl, hb⟩; (try clear hs0); (try clear hs1); (try clear hs2); have n1_ := Aside0.mk (bb_ HX.out hb); have n2_ := Aside0.mk (bp_ HB.out hb); have n3_ := Aside0.mk (Kd.C_below HR.out hb); clear hb HX HB HR; have HX := n1_; have HB := n2_; have HR := n3_; clear n1_ n2_ n3_; have hs0 := (bc_ HX.out 0).trans rfl; have hs1 := (bc_ HX.out 1).trans rfl; have hs2 := (bc_ HX.out 2).trans rfl))
  go_ret2
  exact ⟨rfl, HB.out⟩
 | true =>
  rw [if_pos rfl] at h
  split at h
  case isFalse => cases h
  rename_i hs
  simp only [Option.some.injEq, Prod.mk.injEq] at h
  obtain ⟨rfl, rfl⟩ := h
  obtain ⟨⟨W0, rfl, hw1, hw5⟩, ⟨H0, rfl, hh1, hh5⟩, hs1, hs3⟩ := seaV_nat hs
  have HW := Aside0.mk (And.intro hw1 hw5)
  have HH := Aside0.mk (And.intro hh1 hh5)
  have HSz := Aside0.mk (And.intro hs1 hs3)
  have HSI := Aside0.mk (sea_ships hs)
  unfold fleetsOf
  simp only [Int.toNat_natCast]
  obtain ⟨cn, hcn⟩ : ∃ cn : Int, ((fleetsFrom W0 H0 l0_2 l0_2.length []).length : Int) = cn := ⟨_, rfl⟩
  rw [hcn]
  have HCN := Aside0.mk hcn
  clear hs hw1 hw5 hh1 hh5 hs1 hs3 hcn
  go_enter Try.func36, Try.ntmps36
  go_wp2_with (first | ((with_reducible refine gate_dst (N := 1) rfl ?_); refine box_event ?hg (N := 1) ?hd (cs := #[.int .i64 (W0 : Int), .int .i64 (H0 : Int), .slice A0_2 l0_2.length c0_2]) (t := 28) ?hr ?_; (case hd => rfl); (case hg => rfl); (case hr => first | (go_simp; done) | (go_simp; rfl)); intro g1 hg1 w1 hbox hb; have HX := Aside0.mk hbox; have HG1 := Aside0.mk (show w.heap.size ≤ g1 by omega); have n2_ := Aside0.mk (bp_ HB.out hb); have n3_ := Aside0.mk (Kd.C_below HR.out hb); clear hbox hb hg1 HB HR; have HB := n2_; have HR := n3_; clear n2_ n3_; have hs0 := (bc_ HX.out 0).trans rfl; have hs1 := (bc_ HX.out 1).trans rfl; have hs2 := (bc_ HX.out 2).trans rfl) | (go_at_call 32; refine (impl_IsSea.calls k (W0 : Int) (H0 : Int) A0_2 c0_2 l0_2 _ _ HR.out HC.out HIS.out).mono ?_; rintro e w3 ⟨rfl, hb⟩; (try clear hs0); (try clear hs1); (try clear hs2); have n1_ := Aside0.mk (bb_ HX.out hb); have n2_ := Aside0.mk (bp_ HB.out hb); have n3_ := Aside0.mk (Kd.C_below HR.out hb); clear hb HX HB HR; have HX := n1_; have HB := n2_; have HR := n3_; clear n1_ n2_ n3_; have hs0 := (bc_ HX.out 0).trans rfl; have hs1 := (bc_ HX.out 1).trans rfl; have hs2 := (bc_ HX.out 2).trans rfl) | ((with_reducible refine gate_dst (N := 4) rfl ?_); refine box_event ?hg (N := 4) ?hd (cs := #[.int .i64 0]) (t := 2) ?hr ?_; (case hd => rfl); (case hg => rfl); (case hr => first | (go_simp; done) | (go_simp; rfl)); intro g4 hg4 w4 hbox hb; have HY := Aside0.mk hbox; have HG4 := Aside0.mk (show w.heap.size ≤ g4 ∧ g1 ≠ g4 by have := bz_ HB.out; have := blk_lt HX.out; omega); have HCL4 := Aside0.mk (show ∀ a, A0_2 = some a → 0 < l0_2.length → a.block < g4 by intro a ha h0; subst ha; obtain ⟨b, e, hcb⟩ := Kd.at_int HR.out 0 (by omega) (by omega); injection e with e; subst e; have := World.block_lt_of_cell? _ _ hcb; rw [add_block] at this; omega); (try clear hs0); (try clear hs1); (try clear hs2); have n1_ := Aside0.mk (bb_ HX.out hb); have n2_ := Aside0.mk (bp_ HB.out hb); have n3_ := Aside0.mk (Kd.C_below HR.out hb); clear hb HX HB HR; have HX := n1_; have HB := n2_; have HR := n3_; clear n1_ n2_ n3_; have hs0 := (bc_ HX.out 0).trans rfl; have hs1 := (bc_ HX.out 1).trans rfl; have hs2 := (bc_ HX.out 2).trans rfl; have hz4 : w4.cell? ⟨g4, 0, none⟩ = some (.int .i64 0) := (bc_ HY.out 0).trans rfl; have hfz4 := bf_ HY.out 0; clear hg4 hbox) | ((with_reducible refine gate_store (t := 2) (p := 4) rfl ?_); refine store_event (t := 2) (p := 4) (v := .const (.int .i64 0)) (w1 := (w4.setCell ⟨g4, 0, none⟩ (.int .i64 0))) ?hg ?ho ?hn ?hr ?_; (case ho => rfl); (case hg => rfl); (case hn => rfl); (case hr => first | (go_simp; done) | (go_simp; rfl)); intro w5 hw5; have t1_ := blk_far (p := ⟨g4, 0, none⟩) HX.out HG4.out.2 (.int .i64 0); have t4_ := blk_put HY.out 0 (.int .i64 0) rfl; have tB_ : Below w.heap.size w (w4.setCell ⟨g4, 0, none⟩ (.int .i64 0)) := bs_ HB.out HG4.out.1; rw [← hw5] at t1_ t4_ tB_; clear hz4 hfz4; (try clear hs0); (try clear hs1); (try clear hs2); clear HX HY HB; have HX := Aside0.mk t1_; have HY := Aside0.mk t4_; have HB := Aside0.mk tB_; clear hw5 t1_ t4_ tB_; have hs0 := (bc_ HX.out 0).trans rfl; have hs1 := (bc_ HX.out 1).trans rfl; have hs2 := (bc_ HX.out 2).trans rfl) | (go_at_call 37; refine (count_each W0 H0 l0_2 A0_2 c0_2 g4 HW.out HH.out HSz.out HSI.out HC.out w _ HB.out HRw.out HY.out HG4.out.1 HCL4.out).mono ?_; rintro e w6 ⟨rfl, hy, hb⟩; rw [HCN.out] at hy; have HY6 := Aside0.mk hy; have HB6 := Aside0.mk hb; clear hy hb; (try clear hs0); (try clear hs1); (try clear hs2); have hn4 := (bc_ HY6.out 0).trans rfl))
  go_ret2
  exact ⟨by first | rfl | rw [← HCN.out], HB6.out⟩
def impl_bit.f (a0 : Bool) : Option (Int) := if a0 = true then (some 1) else (some 0)
set_option maxHeartbeats 8000000 in
set_option maxRecDepth 100000 in
theorem impl_bit.calls (a0 : Bool) (r : Int) (w : World) (h : impl_bit.f a0 = some r) :
  Calls Try.prog 42 #[.bool a0] w fun e w' => e = .returned (.int .i64 r) ∧ Drawn0 w w' := by
 have H : (if a0 = true then (some 1) else (some 0)) = some r := h
 clear h
 by_cases c2 : a0 = true
 ·subst c2
  have H1 : (some 1) = some r := by rw [if_pos rfl] at H; exact H
  clear H
  have H := H1
  clear H1
  obtain rfl := Option.some.inj H
  go_enter Try.func42, Try.ntmps42
  go_wp2
  go_ret
  exact ⟨by first | rfl | (simp; done) | (simp [*]; done), by repeat (first | exact Drawn0.refl _ | apply Drawn0.step)⟩
 ·replace c2 := Bool.eq_false_iff.mpr c2
  subst c2
  have H1 : (some 0) = some r := by rw [if_neg (show ¬ (false = true) by decide)] at H; exact H
  clear H
  have H := H1
  clear H1
  obtain rfl := Option.some.inj H
  go_enter Try.func42, Try.ntmps42
  go_wp2
  go_ret
  exact ⟨by first | rfl | (simp; done) | (simp [*]; done), by repeat (first | exact Drawn0.refl _ | apply Drawn0.step)⟩

end Go.Proofs.Ythmfpdkemkjpkaa.F
