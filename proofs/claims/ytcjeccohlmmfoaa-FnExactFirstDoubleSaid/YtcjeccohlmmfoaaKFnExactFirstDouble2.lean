-- written by the session's program xp.py over the kit's print program, and by hand; texts joined by pack.py
import Derived.Test.YtcjeccohlmmfoaaKFnExactFirstDouble1
namespace Go.Proofs.Ytcjeccohlmmfoaa.F
open Go.RowKit Go.Proofs.YtcjeccohlmmfoaaW.PrintWords Go.Proofs.YtcjeccohlmmfoaaW.PrintLast Go.Proofs.YtcjeccohlmmfoaaW.PrintMore
attribute [local go_sem] max2_int min2_int max_two min_two max_three min_three max_four min_four   -- for this text's walks alone
set_option linter.unusedVariables false
set_option linter.unusedSimpArgs false

/-! ### impl_Net_areDouble: function 52 -/
-- EXTERNAL: by hand
-- impl_nodesOf impl_Net_reached
attribute [local go_sem] run_store_func
theorem chosenTo_mem (p : Int → Bool) : ∀ (k : Nat) (x : Int), x ∈ chosenTo p k → 0 ≤ x ∧ x < k ∧ p x = true
  | 0, x, h => by simp [chosenTo] at h
  | k + 1, x, h => by
    have hs : chosenTo p (k + 1) = if p k then chosenTo p k ++ [(k : Int)] else chosenTo p k := rfl
    rw [hs] at h
    have ih := chosenTo_mem p k x
    by_cases hp : p (k : Int) = true
    · rw [if_pos hp] at h
      rcases List.mem_append.1 h with h | h
      · have := ih h; exact ⟨this.1, by omega, this.2.2⟩
      · rw [List.mem_singleton.1 h]; exact ⟨by omega, by omega, hp⟩
    · rw [if_neg hp] at h
      have := ih h; exact ⟨this.1, by omega, this.2.2⟩
def impl_Net_areDouble.l0 : Nat → List (List Int) → Int → Int → Int → Option Bool
  | 0, _, _, _, _ => none
  | k + 1, l, s, a, p => if p < shl .i64 1 l.length then ((impl_Net_reached.l0 k (partIn 1 l s p) l 0 (shl .i64 1 a)).bind fun one => if one = s then ((impl_Net_reached.l0 k (partIn 0 l s p) l 0 (shl .i64 1 a)).bind fun two => if two = s then some true else impl_Net_areDouble.l0 k l s a (wrap64 (p + 1))) else impl_Net_areDouble.l0 k l s a (wrap64 (p + 1))) else some false
def impl_Net_areDouble.f (k : Nat) (a0_0 : Int) (l0_1 : List (List Int)) (a1 : Int) : Option Bool := if l0_1.all edgeOk = true then (match chosenTo (nodeIn a1) 16 with | [] => none | a :: _ => impl_Net_areDouble.l0 k l0_1 a1 a 0) else none
theorem impl_Net_areDouble.mono_l : ∀ k, (∀ l s a p, LeO (impl_Net_areDouble.l0 k l s a p) (impl_Net_areDouble.l0 (k + 1) l s a p))
  | 0 => fun _ _ _ _ r h => by simp [impl_Net_areDouble.l0] at h
  | k + 1 => by
    have ih := impl_Net_areDouble.mono_l k
    have ih1 := (impl_Net_reached.mono_l k).1
    intro l s a p
    unfold impl_Net_areDouble.l0
    repeat' first
      | (with_reducible exact ih _ _ _ _)
      | (with_reducible exact ih1 _ _ _ _)
      | (with_reducible exact LeO.refl _)
      | (with_reducible refine LeO.ite ?_ ?_)
      | (with_reducible refine LeO.bind ?_ (fun _ => ?_))
theorem impl_Net_areDouble.mono : ∀ a0_0 l0_1 a1 k, LeO (impl_Net_areDouble.f k a0_0 l0_1 a1) (impl_Net_areDouble.f (k + 1) a0_0 l0_1 a1) := by
  intro a0_0 l0_1 a1 k
  unfold impl_Net_areDouble.f
  refine LeO.ite ?_ (LeO.refl _)
  cases chosenTo (nodeIn a1) 16 with
  | nil => exact LeO.refl _
  | cons a r => exact impl_Net_areDouble.mono_l k _ _ _ _
def impl_Net_areDouble.T7 : Bool × List (List Nat × List Nat) := (true, [([], []), ([], []), ([0, 1], [0, 1]), ([2], [2]), ([3], [3]), ([3], [3]), ([3], [3]), ([4, 5, 6, 3, 3], [3, 4, 5, 6]), ([3], [3]), ([7, 8, 3], [3, 7, 8]), ([3, 9], [3, 9])])
def impl_Net_areDouble.B7 : List Nat := [0, 0, 3, 7, 15, 15, 15, 127, 15, 511, 1023]
theorem impl_Net_areDouble.tab7 : rtab .any (opsOf Try.f52 7) = impl_Net_areDouble.T7 := by kernel_rfl
theorem impl_Net_areDouble.bits7 : waitsOk impl_Net_areDouble.T7.2 impl_Net_areDouble.B7 = true := by kernel_rfl
set_option maxHeartbeats 2000000 in
set_option maxRecDepth 100000 in
theorem impl_Net_areDouble.calls (k : Nat) (a0_0 : Int) (A0_1 : Option Addr) (c0_1 : Nat) (l0_1 : List (List Int)) (a1 : Int) (r : Bool) (w : World) (hr0_1 : Kd.C (Kd.slice 2 (Kd.int .i64)) w A0_1 l0_1.length l0_1) (hc0_1 : l0_1.length ≤ c0_1) (h : impl_Net_areDouble.f k a0_0 l0_1 a1 = some r) :
    Calls Try.prog 52 #[.agg #[.int .i64 a0_0, .slice A0_1 l0_1.length c0_1], .int .i64 a1] w fun e w' => e = .returned (.bool r) ∧ Below w.heap.size w w' := by
  have eg1 : ∀ args w, (callFunc 71 args).run Try.prog w = .ok (.enter 71 args) w := enters_of Try.func71 (by kernel_rfl) rfl
  have eg2 : ∀ args w, (callFunc 72 args).run Try.prog w = .ok (.enter 72 args) w := enters_of Try.func72 (by kernel_rfl) rfl
  unfold impl_Net_areDouble.f at h
  have hok : l0_1.all edgeOk = true := by
    by_cases hok : l0_1.all edgeOk = true
    · exact hok
    · rw [if_neg hok] at h; simp at h
  rw [if_pos hok] at h
  have he := edgeOk_all hok
  have hN : impl_nodesOf.f a1 = some (chosenTo (nodeIn a1) 16) := rfl
  cases hl : chosenTo (nodeIn a1) 16 with
  | nil => rw [hl] at h; simp at h
  | cons a rest =>
    rw [hl] at h hN
    have ha : 0 ≤ a := (chosenTo_mem (nodeIn a1) 16 a (by rw [hl]; simp)).1
    have H' := Aside0.mk (show impl_Net_areDouble.l0 k l0_1 a1 a 0 = some r from h)
    clear h hok hl
    have HR := Aside0.mk hr0_1
    have HE := Aside0.mk he
    have hm := hr0_1.2.1
    clear hr0_1 he
    have HNd := fun W => impl_nodesOf.calls a1 (a :: rest) W hN
    clear hN
    have hu := Try.underlying33
    have HB0 := Aside0.mk (Below.refl w.heap.size w)
    obtain ⟨nn, hnn⟩ : ∃ j_ : Int, shl .i64 1 (l0_1.length : Int) = j_ := ⟨_, rfl⟩
    have hnn1 := shl1_w hnn
    have hnn2 := shl1_u hnn
    rw [Int.toNat_natCast] at hnn1 hnn2
    have HNN := Aside0.mk hnn
    clear hnn
    have I1 := fun (B6 B7 : Nat) (lb : Array Value) (p : Int) (W : World) h6 h7 HI => (part1Pred B6 B7 lb p a1 l0_1 W h6 h7 HI).toK
    have I2 := fun (B6 B7 : Nat) (lb : Array Value) (p : Int) (W : World) h6 h7 HI => (part2Pred B6 B7 lb p a1 l0_1 W h6 h7 HI).toK
    go_enter Try.func52, Try.ntmps52
    go_wp2_with (first | ((with_reducible refine gate_dst (N := 2) rfl ?_); refine box_event ?hg (N := 2) ?hd (cs := #[.int .i64 a0_0, .slice A0_1 l0_1.length c0_1]) (t := 33) ?hr ?_; (case hd => rfl); (case hg => rfl); (case hr => first | (go_simp; done) | (go_simp; rfl)); intro g2 hgg2 w1 hbox hb; have HB1 := Aside0.mk (below_step HB0.out hb); have HX2 := Aside0.mk hbox; clear hb hbox hgg2) | ((with_reducible refine gate_dst (N := 3) rfl ?_); refine box_event ?hg (N := 3) ?hd (cs := #[.int .i64 a1]) (t := 2) ?hr ?_; (case hd => rfl); (case hg => rfl); (case hr => first | (go_simp; done) | (go_simp; rfl)); intro g3 hgg3 w2 hbox hb; have HB2 := Aside0.mk (below_step HB1.out hb); have HY2 := Aside0.mk (blk_below HX2.out hb); have HY3 := Aside0.mk hbox; have hs0 : w2.cell? ⟨g3, 0, none⟩ = some (.int .i64 a1) := (blk_cell hbox 0).trans rfl; clear hb hbox hgg3) | (go_at_call 54; refine (HNd _).mono ?_; rintro e w3 ⟨v4, rfl, ho, hb⟩; obtain ⟨Ao, co, eo⟩ := Kd.R_slice ho; subst eo; obtain ⟨ad0, rfl, hx0⟩ := Kd.at_int (Kd.R_reads' ho).2.2 0 (by omega) (by simp); (try rw [show ((0 : Int)).toNat = 0 from rfl] at hx0); (try rw [Addr.add_zero'] at hx0); have hx0' : w3.cell? ad0 = some (.int .i64 a) := hx0; clear hx0; have HB3 := Aside0.mk (below_step HB2.out hb); have HZ2 := Aside0.mk (blk_below HY2.out hb); have HZ3 := Aside0.mk (blk_below HY3.out hb); have hc1 : w3.cell? ⟨g2, 1, none⟩ = some (.slice A0_1 l0_1.length c0_1) := (blk_cell HZ2.out 1).trans rfl; clear ho hb hs0) | ((with_reducible refine gate_dst (N := 6) rfl ?_); refine box_event ?hg (N := 6) ?hd (cs := #[.nilFunc]) (t := 81) ?hr ?_; (case hd => rfl); (case hg => rfl); (case hr => first | (go_simp; done) | (go_simp; rfl)); intro g6 hgg6 w4 hbox hb; have HB4 := Aside0.mk (below_step HB3.out hb); have HV2 := Aside0.mk (blk_below HZ2.out hb); have HV3 := Aside0.mk (blk_below HZ3.out hb); have HV6 := Aside0.mk hbox; have hG6 := Aside0.mk (show w.heap.size ≤ g6 ∧ g2 ≠ g6 ∧ g3 ≠ g6 by have := below_size HB3.out; have := blk_lt HZ2.out; have := blk_lt HZ3.out; omega); have hf6 : w4.cell? ⟨g6, 0, none⟩ = some .nilFunc := (blk_cell hbox 0).trans rfl; have hff6 := blk_frozen hbox 0; clear hc1 hx0'; clear hb hbox hgg6) | ((with_reducible refine gate_store (t := 81) (p := 6) rfl ?_); refine store_event (t := 81) (p := 6) (v := .tmp 13) (w1 := (w4.setCell ⟨g6, 0, none⟩ (.func (.func 69) #[] #[.pointer (some ⟨g3, 0, none⟩), .pointer (some ⟨g2, 0, none⟩)]))) ?hg ?ho ?hn ?hr ?_; (case ho => rfl); (case hg => rfl); (case hn => rfl); (case hr => first | (go_simp; done) | (go_simp; rfl)); intro w5 hw5; have t1_ := blk_far (p := ⟨g6, 0, none⟩) HV2.out hG6.out.2.1 (.func (.func 69) #[] #[.pointer (some ⟨g3, 0, none⟩), .pointer (some ⟨g2, 0, none⟩)]); rw [← hw5] at t1_; have HU2 := Aside0.mk t1_; clear t1_; have t1_ := blk_far (p := ⟨g6, 0, none⟩) HV3.out hG6.out.2.2 (.func (.func 69) #[] #[.pointer (some ⟨g3, 0, none⟩), .pointer (some ⟨g2, 0, none⟩)]); rw [← hw5] at t1_; have HU3 := Aside0.mk t1_; clear t1_; have t1_ := blk_put HV6.out 0 (.func (.func 69) #[] #[.pointer (some ⟨g3, 0, none⟩), .pointer (some ⟨g2, 0, none⟩)]) rfl; rw [← hw5] at t1_; have HU6 := Aside0.mk t1_; clear t1_; have t1_ := arr_below HB4.out hG6.out.1 0 (.func (.func 69) #[] #[.pointer (some ⟨g3, 0, none⟩), .pointer (some ⟨g2, 0, none⟩)]); rw [← hw5] at t1_; have HB5 := Aside0.mk t1_; clear t1_; have hc1 : w5.cell? ⟨g2, 1, none⟩ = some (.slice A0_1 l0_1.length c0_1) := (blk_cell HU2.out 1).trans rfl; clear hw5 hf6 hff6))
    clear hc1
    go_loopg [18] k (fun kq s18 wr => ∃ p : Int, s18 = .int .i64 p ∧ Aside0 (impl_Net_areDouble.l0 kq l0_1 a1 a p = some r) ∧ Aside0 (kq ≤ k) ∧ Aside0 (wr.heap[g2]? = some (.cells #[.int .i64 a0_0, .slice A0_1 l0_1.length c0_1] 33 (0, 0))) ∧ Aside0 (wr.heap[g3]? = some (.cells #[.int .i64 a1] 2 (0, 0))) ∧ Aside0 (wr.heap[g6]? = some (.cells #[.func (.func 69) #[] #[.pointer (some ⟨g3, 0, none⟩), .pointer (some ⟨g2, 0, none⟩)]] 81 (0, 0))) ∧ Aside0 (Below w.heap.size w wr))
    case atStart => exact ⟨0, rfl, H', ⟨Nat.le_refl _⟩, ⟨HU2.out⟩, ⟨HU3.out⟩, ⟨HU6.out⟩, ⟨HB5.out⟩⟩
    case round =>
      clear H' HNd HB1 HX2 HB2 HY2 HY3 HB3 HZ2 HZ3 HB4 HV2 HV3 HV6 hG6 HU2 HU3 HU6 HB5 HB0
      obtain ⟨p, rfl, HA, HK, HX2, HX3, HX6, HB⟩ := hrel
      cases gk with
      | zero => exact absurd HA.out (by simp [impl_Net_areDouble.l0])
      | succ k1 =>
        have H := HA.out
        clear HA
        simp only [impl_Net_areDouble.l0] at H
        rw [HNN.out] at H
        by_cases c1 : p < nn
        · rw [if_pos c1] at H
          have c1b : decide (p < nn) = true := decide_eq_true c1
          clear c1
          obtain ⟨one, h1, H⟩ := Option.bind_eq_some_iff.1 H
          have H1 := Aside0.mk h1
          clear h1
          by_cases c2 : one = a1
          · rw [if_pos c2] at H
            have c3 := c2.symm
            clear c2
            subst c3
            obtain ⟨two, h2, H⟩ := Option.bind_eq_some_iff.1 H
            have H2 := Aside0.mk h2
            clear h2
            by_cases c2 : two = a1
            · rw [if_pos c2] at H
              have c2a : (two == a1) = true := beq_iff_eq.mpr c2
              have c2b : (two != a1) = false := bne_eq_false_iff_eq.mpr c2
              obtain rfl := Option.some.inj H
              clear c2 H
              go_wp2_with (first | ((with_reducible refine gate_dst (N := 7) rfl ?_); refine box_event ?hg (N := 7) ?hd (cs := #[.int .i64 0]) (t := 2) ?hr ?_; (case hd => rfl); (case hg => rfl); (case hr => first | (go_simp; done) | (go_simp; rfl)); intro g7 hgg7 w7 hbox hb; have HB7 := Aside0.mk (below_step HB.out hb); have HP2 := Aside0.mk (blk_below HX2.out hb); have HP3 := Aside0.mk (blk_below HX3.out hb); have HP6 := Aside0.mk (blk_below HX6.out hb); have HP7 := Aside0.mk hbox; have hG7 := Aside0.mk (show w.heap.size ≤ g7 ∧ g2 ≠ g7 ∧ g3 ≠ g7 ∧ g6 ≠ g7 by have := below_size HB.out; have := blk_lt HX2.out; have := blk_lt HX3.out; have := blk_lt HX6.out; omega); have hf7 : w7.cell? ⟨g7, 0, none⟩ = some (.int .i64 0) := (blk_cell hbox 0).trans rfl; have hff7 := blk_frozen hbox 0; clear hb hbox hgg7) | ((with_reducible refine gate_store (t := 2) (p := 7) rfl ?_); refine store_event (t := 2) (p := 7) (v := .tmp 20) (w1 := (w7.setCell ⟨g7, 0, none⟩ (.int .i64 p))) ?hg ?ho ?hn ?hr ?_; (case ho => rfl); (case hg => rfl); (case hn => rfl); (case hr => first | (go_simp; done) | (go_simp; rfl)); intro w8 hw8; have t1_ := blk_far (p := ⟨g7, 0, none⟩) HP2.out hG7.out.2.1 (.int .i64 p); rw [← hw8] at t1_; have HQ2 := Aside0.mk t1_; clear t1_; have t1_ := blk_far (p := ⟨g7, 0, none⟩) HP3.out hG7.out.2.2.1 (.int .i64 p); rw [← hw8] at t1_; have HQ3 := Aside0.mk t1_; clear t1_; have t1_ := blk_far (p := ⟨g7, 0, none⟩) HP6.out hG7.out.2.2.2 (.int .i64 p); rw [← hw8] at t1_; have HQ6 := Aside0.mk t1_; clear t1_; have t1_ := blk_put HP7.out 0 (.int .i64 p) rfl; rw [← hw8] at t1_; have HQ7 := Aside0.mk t1_; clear t1_; have t1_ := arr_below HB7.out hG7.out.1 0 (.int .i64 p); rw [← hw8] at t1_; have HB8 := Aside0.mk t1_; clear t1_; have hc0 : w8.cell? ⟨g2, 0, none⟩ = some (.int .i64 a0_0) := (blk_cell HQ2.out 0).trans rfl; have hc1 : w8.cell? ⟨g2, 1, none⟩ = some (.slice A0_1 l0_1.length c0_1) := (blk_cell HQ2.out 1).trans rfl; clear hw8 hf7 hff7) | (go_at_call 70; refine (impl_Net_reached.calls 71 _ (partIn 1 l0_1 a1 p) eg1 k1 a0_0 A0_1 c0_1 l0_1 a a1 w8 (I1 g6 g7 _ p w8 HQ6.out HQ7.out (insidePred g3 g2 a1 _ A0_1 c0_1 l0_1 w8 HQ3.out HQ2.out (Kd.C_below HR.out HB8.out) HE.out)) (Kd.C_below HR.out HB8.out) hc0_1 HE.out ha H1.out).mono ?_; rintro e w9 ⟨rfl, hb⟩; have HT2 := Aside0.mk (blk_below HQ2.out hb); have HT3 := Aside0.mk (blk_below HQ3.out hb); have HT6 := Aside0.mk (blk_below HQ6.out hb); have HT7 := Aside0.mk (blk_below HQ7.out hb); have HB9 := Aside0.mk (below_step HB8.out hb); clear hb hc0 hc1; have hc3 : w9.cell? ⟨g3, 0, none⟩ = some (.int .i64 a1) := (blk_cell HT3.out 0).trans rfl))
              have n2_ := Aside0.mk (blk_drew HT2.out)
              have n3_ := Aside0.mk (blk_drew HT3.out)
              have n6_ := Aside0.mk (blk_drew HT6.out)
              have n7_ := Aside0.mk (blk_drew HT7.out)
              have nb_ := Aside0.mk (below_drew1 HB9.out)
              clear HT2 HT3 HT6 HT7 HB9
              clear hc3
              refine start_ (n := 11) (S := fun w' => w'.cell? ⟨g2, 0, none⟩ = some (.int .i64 a0_0) ∧ w'.cell? ⟨g2, 1, none⟩ = some (.slice A0_1 l0_1.length c0_1) ∧ w'.cell? ⟨g3, 0, none⟩ = some (.int .i64 a1)) (ds := []) #[false, false, false, false, false, false, false, false, false, false, false] (by kernel_rfl) rfl rfl ⟨(blk_cell n2_.out 0).trans rfl, (blk_cell n2_.out 1).trans rfl, (blk_cell n3_.out 0).trans rfl⟩ (fun hHeld => ?_)
              refine with_tabW impl_Net_areDouble.tab7 impl_Net_areDouble.bits7 (fun HT_ HW_ => ?_)
              generalize w9.drew = w10 at n2_ n3_ n6_ n7_ nb_ hHeld ⊢
              refine pure_ (i := 0) (N := some 25) (v := ?_) (a' := ?_) #[true, false, false, false, false, false, false, false, false, false, false] rfl rfl (any_of HT_.out (by kernel_rfl)) (fun _ _ _ h => h) (Or.inl ⟨by rfl, ?_⟩) ?_ ?_
              rotate_left
              · intro w'
                go_simp
                with_reducible rfl
              rotate_left
              · simp only [Act.put, List.setIfInBounds_toArray, List.set_cons_zero, List.set_cons_succ, i64_w, i32_w]
                rfl
              refine take_ (i := 1) (N := some 26) (v := ?_) (a' := ?_) #[true, true, false, false, false, false, false, false, false, false, false] rfl rfl (take_ofW HT_.out HW_.out (by kernel_rfl)) (fun _ _ _ h => h) (Or.inl ⟨by rfl, ?_⟩) hHeld ?_ ?_
              rotate_left
              · rintro w' ⟨s0, s1, s2⟩
                go_simp
                with_reducible rfl
              rotate_left
              · simp only [Act.put, List.setIfInBounds_toArray, List.set_cons_zero, List.set_cons_succ, i64_w, i32_w]
                rfl
              refine pure_ (i := 2) (N := some 27) (v := ?_) (a' := ?_) #[true, true, true, false, false, false, false, false, false, false, false] rfl rfl (any_of HT_.out (by kernel_rfl)) (fun _ _ _ h => h) (Or.inl ⟨by rfl, ?_⟩) ?_ ?_
              rotate_left
              · intro w'
                go_simp
                with_reducible rfl
              rotate_left
              · simp only [Act.put, List.setIfInBounds_toArray, List.set_cons_zero, List.set_cons_succ, i64_w, i32_w]
                rfl
              refine pure_ (i := 3) (N := some 28) (v := ?_) (a' := ?_) #[true, true, true, true, false, false, false, false, false, false, false] rfl rfl (any_of HT_.out (by kernel_rfl)) (fun _ _ _ h => h) (Or.inl ⟨by rfl, ?_⟩) ?_ ?_
              rotate_left
              · intro w'
                go_simp
                with_reducible rfl
              rotate_left
              · simp only [Act.put, List.setIfInBounds_toArray, List.set_cons_zero, List.set_cons_succ, i64_w, i32_w]
                rfl
              refine take_ (i := 4) (N := some 29) (v := ?_) (a' := ?_) #[true, true, true, true, true, false, false, false, false, false, false] rfl rfl (take_ofW HT_.out HW_.out (by kernel_rfl)) (fun _ _ _ h => h) (Or.inl ⟨by rfl, ?_⟩) hHeld ?_ ?_
              rotate_left
              · rintro w' ⟨s0, s1, s2⟩
                go_simp
                with_reducible rfl
              rotate_left
              · simp only [Act.put, List.setIfInBounds_toArray, List.set_cons_zero, List.set_cons_succ, i64_w, i32_w]
                rfl
              refine pure_ (i := 5) (N := some 30) (v := ?_) (a' := ?_) #[true, true, true, true, true, true, false, false, false, false, false] rfl rfl (any_of HT_.out (by kernel_rfl)) (fun _ _ _ h => h) (Or.inl ⟨by rfl, ?_⟩) ?_ ?_
              rotate_left
              · intro w'
                go_simp
                with_reducible rfl
              rotate_left
              · simp only [Act.put, List.setIfInBounds_toArray, List.set_cons_zero, List.set_cons_succ, i64_w, i32_w]
                rfl
              refine pure_ (i := 6) (N := some 31) (v := ?_) (a' := ?_) #[true, true, true, true, true, true, true, false, false, false, false] rfl rfl (any_of HT_.out (by kernel_rfl)) (fun _ _ _ h => h) (Or.inl ⟨by rfl, ?_⟩) ?_ ?_
              rotate_left
              · intro w'
                go_simp
                with_reducible rfl
              rotate_left
              · simp only [Act.put, List.setIfInBounds_toArray, List.set_cons_zero, List.set_cons_succ, i64_w, i32_w]
                rfl
              refine take_ (i := 8) (N := some 33) (v := ?_) (a' := ?_) #[true, true, true, true, true, true, true, false, true, false, false] rfl rfl (take_ofW HT_.out HW_.out (by kernel_rfl)) (fun _ _ _ h => h) (Or.inl ⟨by rfl, ?_⟩) hHeld ?_ ?_
              rotate_left
              · rintro w' ⟨s0, s1, s2⟩
                go_simp
                with_reducible rfl
              rotate_left
              · simp only [Act.put, List.setIfInBounds_toArray, List.set_cons_zero, List.set_cons_succ, i64_w, i32_w]
                rfl
              refine one_ (i := 7) (N := some 32) #[true, true, true, true, true, true, true, true, true, false, false] rfl rfl (one_of HT_.out (by kernel_rfl)) (by decide) (fun K hK => ?_)
              refine goes_ Try.func70 (by kernel_rfl) rfl #[.agg #[.int .i64 a0_0, .slice A0_1 l0_1.length c0_1], .int .i64 a, .func (.func 72) #[] #[.pointer (some ⟨g6, 0, none⟩), .pointer (some ⟨g7, 0, none⟩)]] (by rfl) rfl rfl (by (try simp only [List.map_toArray, List.map_cons, List.map_nil]); first | done | rfl) ?_
              refine (impl_Net_reached.calls 72 _ (partIn 0 l0_1 a1 p) eg2 k1 a0_0 A0_1 c0_1 l0_1 a two w10 (I2 g6 g7 _ p w10 n6_.out n7_.out (insidePred g3 g2 a1 _ A0_1 c0_1 l0_1 w10 n3_.out n2_.out (Kd.C_below HR.out nb_.out) HE.out)) (Kd.C_below HR.out nb_.out) hc0_1 HE.out ha H2.out).mono ?_
              rintro e w11 ⟨rfl, hb⟩
              refine ⟨_, rfl, ?_⟩
              have HS2 := Aside0.mk (blk_below n2_.out hb)
              have HS3 := Aside0.mk (blk_below n3_.out hb)
              have HS6 := Aside0.mk (blk_below n6_.out hb)
              have HB11 := Aside0.mk (below_step nb_.out hb)
              clear hb
              refine hK.out _ _ ⟨(blk_cell HS2.out 0).trans rfl, (blk_cell HS2.out 1).trans rfl, (blk_cell HS3.out 0).trans rfl⟩ (fun hHeld => ?_)
              clear hK K
              refine norm_ (a' := ?_) ?_ ?_
              rotate_left
              · show Act.put _ (some 32) _ = _
                simp only [Act.put, List.setIfInBounds_toArray, List.set_cons_zero, List.set_cons_succ, i64_w, i32_w]
                rfl
              refine pure_ (i := 9) (N := some 34) (v := ?_) (a' := ?_) #[true, true, true, true, true, true, true, true, true, true, false] rfl rfl (any_of HT_.out (by kernel_rfl)) (fun _ _ _ h => h) (Or.inl ⟨by rfl, ?_⟩) ?_ ?_
              rotate_left
              · intro w'
                go_simp
                with_reducible rfl
              rotate_left
              · simp only [Act.put, List.setIfInBounds_toArray, List.set_cons_zero, List.set_cons_succ, i64_w, i32_w]
                rfl
              refine pure_ (i := 10) (N := some 35) (v := ?_) (a' := ?_) #[true, true, true, true, true, true, true, true, true, true, true] rfl rfl (any_of HT_.out (by kernel_rfl)) (fun _ _ _ h => h) (Or.inl ⟨by rfl, ?_⟩) ?_ ?_
              rotate_left
              · intro w'
                go_simp
                with_reducible rfl
              rotate_left
              · simp only [Act.put, List.setIfInBounds_toArray, List.set_cons_zero, List.set_cons_succ, i64_w, i32_w]
                rfl
              refine done_ (done_of HT_.out (by kernel_rfl)) ?_
              go_wp2_with fail
              go_ret
              exact ⟨rfl, HB11.out⟩
            · rw [if_neg c2] at H
              have c2a : (two == a1) = false := beq_eq_false_iff_ne.mpr c2
              have c2b : (two != a1) = true := bne_iff_ne.mpr c2
              have H' := Aside0.mk H
              clear H c2
              go_wp2_with (first | ((with_reducible refine gate_dst (N := 7) rfl ?_); refine box_event ?hg (N := 7) ?hd (cs := #[.int .i64 0]) (t := 2) ?hr ?_; (case hd => rfl); (case hg => rfl); (case hr => first | (go_simp; done) | (go_simp; rfl)); intro g7 hgg7 w7 hbox hb; have HB7 := Aside0.mk (below_step HB.out hb); have HP2 := Aside0.mk (blk_below HX2.out hb); have HP3 := Aside0.mk (blk_below HX3.out hb); have HP6 := Aside0.mk (blk_below HX6.out hb); have HP7 := Aside0.mk hbox; have hG7 := Aside0.mk (show w.heap.size ≤ g7 ∧ g2 ≠ g7 ∧ g3 ≠ g7 ∧ g6 ≠ g7 by have := below_size HB.out; have := blk_lt HX2.out; have := blk_lt HX3.out; have := blk_lt HX6.out; omega); have hf7 : w7.cell? ⟨g7, 0, none⟩ = some (.int .i64 0) := (blk_cell hbox 0).trans rfl; have hff7 := blk_frozen hbox 0; clear hb hbox hgg7) | ((with_reducible refine gate_store (t := 2) (p := 7) rfl ?_); refine store_event (t := 2) (p := 7) (v := .tmp 20) (w1 := (w7.setCell ⟨g7, 0, none⟩ (.int .i64 p))) ?hg ?ho ?hn ?hr ?_; (case ho => rfl); (case hg => rfl); (case hn => rfl); (case hr => first | (go_simp; done) | (go_simp; rfl)); intro w8 hw8; have t1_ := blk_far (p := ⟨g7, 0, none⟩) HP2.out hG7.out.2.1 (.int .i64 p); rw [← hw8] at t1_; have HQ2 := Aside0.mk t1_; clear t1_; have t1_ := blk_far (p := ⟨g7, 0, none⟩) HP3.out hG7.out.2.2.1 (.int .i64 p); rw [← hw8] at t1_; have HQ3 := Aside0.mk t1_; clear t1_; have t1_ := blk_far (p := ⟨g7, 0, none⟩) HP6.out hG7.out.2.2.2 (.int .i64 p); rw [← hw8] at t1_; have HQ6 := Aside0.mk t1_; clear t1_; have t1_ := blk_put HP7.out 0 (.int .i64 p) rfl; rw [← hw8] at t1_; have HQ7 := Aside0.mk t1_; clear t1_; have t1_ := arr_below HB7.out hG7.out.1 0 (.int .i64 p); rw [← hw8] at t1_; have HB8 := Aside0.mk t1_; clear t1_; have hc0 : w8.cell? ⟨g2, 0, none⟩ = some (.int .i64 a0_0) := (blk_cell HQ2.out 0).trans rfl; have hc1 : w8.cell? ⟨g2, 1, none⟩ = some (.slice A0_1 l0_1.length c0_1) := (blk_cell HQ2.out 1).trans rfl; clear hw8 hf7 hff7) | (go_at_call 70; refine (impl_Net_reached.calls 71 _ (partIn 1 l0_1 a1 p) eg1 k1 a0_0 A0_1 c0_1 l0_1 a a1 w8 (I1 g6 g7 _ p w8 HQ6.out HQ7.out (insidePred g3 g2 a1 _ A0_1 c0_1 l0_1 w8 HQ3.out HQ2.out (Kd.C_below HR.out HB8.out) HE.out)) (Kd.C_below HR.out HB8.out) hc0_1 HE.out ha H1.out).mono ?_; rintro e w9 ⟨rfl, hb⟩; have HT2 := Aside0.mk (blk_below HQ2.out hb); have HT3 := Aside0.mk (blk_below HQ3.out hb); have HT6 := Aside0.mk (blk_below HQ6.out hb); have HT7 := Aside0.mk (blk_below HQ7.out hb); have HB9 := Aside0.mk (below_step HB8.out hb); clear hb hc0 hc1; have hc3 : w9.cell? ⟨g3, 0, none⟩ = some (.int .i64 a1) := (blk_cell HT3.out 0).trans rfl))
              have n2_ := Aside0.mk (blk_drew HT2.out)
              have n3_ := Aside0.mk (blk_drew HT3.out)
              have n6_ := Aside0.mk (blk_drew HT6.out)
              have n7_ := Aside0.mk (blk_drew HT7.out)
              have nb_ := Aside0.mk (below_drew1 HB9.out)
              clear HT2 HT3 HT6 HT7 HB9
              clear hc3
              refine start_ (n := 11) (S := fun w' => w'.cell? ⟨g2, 0, none⟩ = some (.int .i64 a0_0) ∧ w'.cell? ⟨g2, 1, none⟩ = some (.slice A0_1 l0_1.length c0_1) ∧ w'.cell? ⟨g3, 0, none⟩ = some (.int .i64 a1)) (ds := []) #[false, false, false, false, false, false, false, false, false, false, false] (by kernel_rfl) rfl rfl ⟨(blk_cell n2_.out 0).trans rfl, (blk_cell n2_.out 1).trans rfl, (blk_cell n3_.out 0).trans rfl⟩ (fun hHeld => ?_)
              refine with_tabW impl_Net_areDouble.tab7 impl_Net_areDouble.bits7 (fun HT_ HW_ => ?_)
              generalize w9.drew = w10 at n2_ n3_ n6_ n7_ nb_ hHeld ⊢
              refine pure_ (i := 0) (N := some 25) (v := ?_) (a' := ?_) #[true, false, false, false, false, false, false, false, false, false, false] rfl rfl (any_of HT_.out (by kernel_rfl)) (fun _ _ _ h => h) (Or.inl ⟨by rfl, ?_⟩) ?_ ?_
              rotate_left
              · intro w'
                go_simp
                with_reducible rfl
              rotate_left
              · simp only [Act.put, List.setIfInBounds_toArray, List.set_cons_zero, List.set_cons_succ, i64_w, i32_w]
                rfl
              refine take_ (i := 1) (N := some 26) (v := ?_) (a' := ?_) #[true, true, false, false, false, false, false, false, false, false, false] rfl rfl (take_ofW HT_.out HW_.out (by kernel_rfl)) (fun _ _ _ h => h) (Or.inl ⟨by rfl, ?_⟩) hHeld ?_ ?_
              rotate_left
              · rintro w' ⟨s0, s1, s2⟩
                go_simp
                with_reducible rfl
              rotate_left
              · simp only [Act.put, List.setIfInBounds_toArray, List.set_cons_zero, List.set_cons_succ, i64_w, i32_w]
                rfl
              refine pure_ (i := 2) (N := some 27) (v := ?_) (a' := ?_) #[true, true, true, false, false, false, false, false, false, false, false] rfl rfl (any_of HT_.out (by kernel_rfl)) (fun _ _ _ h => h) (Or.inl ⟨by rfl, ?_⟩) ?_ ?_
              rotate_left
              · intro w'
                go_simp
                with_reducible rfl
              rotate_left
              · simp only [Act.put, List.setIfInBounds_toArray, List.set_cons_zero, List.set_cons_succ, i64_w, i32_w]
                rfl
              refine pure_ (i := 3) (N := some 28) (v := ?_) (a' := ?_) #[true, true, true, true, false, false, false, false, false, false, false] rfl rfl (any_of HT_.out (by kernel_rfl)) (fun _ _ _ h => h) (Or.inl ⟨by rfl, ?_⟩) ?_ ?_
              rotate_left
              · intro w'
                go_simp
                with_reducible rfl
              rotate_left
              · simp only [Act.put, List.setIfInBounds_toArray, List.set_cons_zero, List.set_cons_succ, i64_w, i32_w]
                rfl
              refine take_ (i := 4) (N := some 29) (v := ?_) (a' := ?_) #[true, true, true, true, true, false, false, false, false, false, false] rfl rfl (take_ofW HT_.out HW_.out (by kernel_rfl)) (fun _ _ _ h => h) (Or.inl ⟨by rfl, ?_⟩) hHeld ?_ ?_
              rotate_left
              · rintro w' ⟨s0, s1, s2⟩
                go_simp
                with_reducible rfl
              rotate_left
              · simp only [Act.put, List.setIfInBounds_toArray, List.set_cons_zero, List.set_cons_succ, i64_w, i32_w]
                rfl
              refine pure_ (i := 5) (N := some 30) (v := ?_) (a' := ?_) #[true, true, true, true, true, true, false, false, false, false, false] rfl rfl (any_of HT_.out (by kernel_rfl)) (fun _ _ _ h => h) (Or.inl ⟨by rfl, ?_⟩) ?_ ?_
              rotate_left
              · intro w'
                go_simp
                with_reducible rfl
              rotate_left
              · simp only [Act.put, List.setIfInBounds_toArray, List.set_cons_zero, List.set_cons_succ, i64_w, i32_w]
                rfl
              refine pure_ (i := 6) (N := some 31) (v := ?_) (a' := ?_) #[true, true, true, true, true, true, true, false, false, false, false] rfl rfl (any_of HT_.out (by kernel_rfl)) (fun _ _ _ h => h) (Or.inl ⟨by rfl, ?_⟩) ?_ ?_
              rotate_left
              · intro w'
                go_simp
                with_reducible rfl
              rotate_left
              · simp only [Act.put, List.setIfInBounds_toArray, List.set_cons_zero, List.set_cons_succ, i64_w, i32_w]
                rfl
              refine take_ (i := 8) (N := some 33) (v := ?_) (a' := ?_) #[true, true, true, true, true, true, true, false, true, false, false] rfl rfl (take_ofW HT_.out HW_.out (by kernel_rfl)) (fun _ _ _ h => h) (Or.inl ⟨by rfl, ?_⟩) hHeld ?_ ?_
              rotate_left
              · rintro w' ⟨s0, s1, s2⟩
                go_simp
                with_reducible rfl
              rotate_left
              · simp only [Act.put, List.setIfInBounds_toArray, List.set_cons_zero, List.set_cons_succ, i64_w, i32_w]
                rfl
              refine one_ (i := 7) (N := some 32) #[true, true, true, true, true, true, true, true, true, false, false] rfl rfl (one_of HT_.out (by kernel_rfl)) (by decide) (fun K hK => ?_)
              refine goes_ Try.func70 (by kernel_rfl) rfl #[.agg #[.int .i64 a0_0, .slice A0_1 l0_1.length c0_1], .int .i64 a, .func (.func 72) #[] #[.pointer (some ⟨g6, 0, none⟩), .pointer (some ⟨g7, 0, none⟩)]] (by rfl) rfl rfl (by (try simp only [List.map_toArray, List.map_cons, List.map_nil]); first | done | rfl) ?_
              refine (impl_Net_reached.calls 72 _ (partIn 0 l0_1 a1 p) eg2 k1 a0_0 A0_1 c0_1 l0_1 a two w10 (I2 g6 g7 _ p w10 n6_.out n7_.out (insidePred g3 g2 a1 _ A0_1 c0_1 l0_1 w10 n3_.out n2_.out (Kd.C_below HR.out nb_.out) HE.out)) (Kd.C_below HR.out nb_.out) hc0_1 HE.out ha H2.out).mono ?_
              rintro e w11 ⟨rfl, hb⟩
              refine ⟨_, rfl, ?_⟩
              have HS2 := Aside0.mk (blk_below n2_.out hb)
              have HS3 := Aside0.mk (blk_below n3_.out hb)
              have HS6 := Aside0.mk (blk_below n6_.out hb)
              have HB11 := Aside0.mk (below_step nb_.out hb)
              clear hb
              refine hK.out _ _ ⟨(blk_cell HS2.out 0).trans rfl, (blk_cell HS2.out 1).trans rfl, (blk_cell HS3.out 0).trans rfl⟩ (fun hHeld => ?_)
              clear hK K
              refine norm_ (a' := ?_) ?_ ?_
              rotate_left
              · show Act.put _ (some 32) _ = _
                simp only [Act.put, List.setIfInBounds_toArray, List.set_cons_zero, List.set_cons_succ, i64_w, i32_w]
                rfl
              refine pure_ (i := 9) (N := some 34) (v := ?_) (a' := ?_) #[true, true, true, true, true, true, true, true, true, true, false] rfl rfl (any_of HT_.out (by kernel_rfl)) (fun _ _ _ h => h) (Or.inl ⟨by rfl, ?_⟩) ?_ ?_
              rotate_left
              · intro w'
                go_simp
                with_reducible rfl
              rotate_left
              · simp only [Act.put, List.setIfInBounds_toArray, List.set_cons_zero, List.set_cons_succ, i64_w, i32_w]
                rfl
              refine pure_ (i := 10) (N := some 35) (v := ?_) (a' := ?_) #[true, true, true, true, true, true, true, true, true, true, true] rfl rfl (any_of HT_.out (by kernel_rfl)) (fun _ _ _ h => h) (Or.inl ⟨by rfl, ?_⟩) ?_ ?_
              rotate_left
              · intro w'
                go_simp
                with_reducible rfl
              rotate_left
              · simp only [Act.put, List.setIfInBounds_toArray, List.set_cons_zero, List.set_cons_succ, i64_w, i32_w]
                rfl
              refine done_ (done_of HT_.out (by kernel_rfl)) ?_
              go_wp2_with fail
              go_roundg k1
              case measure => have := HK.out; omega
              case rel => exact ⟨wrap64 (p + 1), rfl, H', ⟨by have := HK.out; omega⟩, ⟨HS2.out⟩, ⟨HS3.out⟩, ⟨HS6.out⟩, ⟨HB11.out⟩⟩
          · rw [if_neg c2] at H
            have c2a : (one == a1) = false := beq_eq_false_iff_ne.mpr c2
            have c2b : (one != a1) = true := bne_iff_ne.mpr c2
            have H' := Aside0.mk H
            clear H c2
            go_wp2_with (first | ((with_reducible refine gate_dst (N := 7) rfl ?_); refine box_event ?hg (N := 7) ?hd (cs := #[.int .i64 0]) (t := 2) ?hr ?_; (case hd => rfl); (case hg => rfl); (case hr => first | (go_simp; done) | (go_simp; rfl)); intro g7 hgg7 w7 hbox hb; have HB7 := Aside0.mk (below_step HB.out hb); have HP2 := Aside0.mk (blk_below HX2.out hb); have HP3 := Aside0.mk (blk_below HX3.out hb); have HP6 := Aside0.mk (blk_below HX6.out hb); have HP7 := Aside0.mk hbox; have hG7 := Aside0.mk (show w.heap.size ≤ g7 ∧ g2 ≠ g7 ∧ g3 ≠ g7 ∧ g6 ≠ g7 by have := below_size HB.out; have := blk_lt HX2.out; have := blk_lt HX3.out; have := blk_lt HX6.out; omega); have hf7 : w7.cell? ⟨g7, 0, none⟩ = some (.int .i64 0) := (blk_cell hbox 0).trans rfl; have hff7 := blk_frozen hbox 0; clear hb hbox hgg7) | ((with_reducible refine gate_store (t := 2) (p := 7) rfl ?_); refine store_event (t := 2) (p := 7) (v := .tmp 20) (w1 := (w7.setCell ⟨g7, 0, none⟩ (.int .i64 p))) ?hg ?ho ?hn ?hr ?_; (case ho => rfl); (case hg => rfl); (case hn => rfl); (case hr => first | (go_simp; done) | (go_simp; rfl)); intro w8 hw8; have t1_ := blk_far (p := ⟨g7, 0, none⟩) HP2.out hG7.out.2.1 (.int .i64 p); rw [← hw8] at t1_; have HQ2 := Aside0.mk t1_; clear t1_; have t1_ := blk_far (p := ⟨g7, 0, none⟩) HP3.out hG7.out.2.2.1 (.int .i64 p); rw [← hw8] at t1_; have HQ3 := Aside0.mk t1_; clear t1_; have t1_ := blk_far (p := ⟨g7, 0, none⟩) HP6.out hG7.out.2.2.2 (.int .i64 p); rw [← hw8] at t1_; have HQ6 := Aside0.mk t1_; clear t1_; have t1_ := blk_put HP7.out 0 (.int .i64 p) rfl; rw [← hw8] at t1_; have HQ7 := Aside0.mk t1_; clear t1_; have t1_ := arr_below HB7.out hG7.out.1 0 (.int .i64 p); rw [← hw8] at t1_; have HB8 := Aside0.mk t1_; clear t1_; have hc0 : w8.cell? ⟨g2, 0, none⟩ = some (.int .i64 a0_0) := (blk_cell HQ2.out 0).trans rfl; have hc1 : w8.cell? ⟨g2, 1, none⟩ = some (.slice A0_1 l0_1.length c0_1) := (blk_cell HQ2.out 1).trans rfl; clear hw8 hf7 hff7) | (go_at_call 70; refine (impl_Net_reached.calls 71 _ (partIn 1 l0_1 a1 p) eg1 k1 a0_0 A0_1 c0_1 l0_1 a one w8 (I1 g6 g7 _ p w8 HQ6.out HQ7.out (insidePred g3 g2 a1 _ A0_1 c0_1 l0_1 w8 HQ3.out HQ2.out (Kd.C_below HR.out HB8.out) HE.out)) (Kd.C_below HR.out HB8.out) hc0_1 HE.out ha H1.out).mono ?_; rintro e w9 ⟨rfl, hb⟩; have HT2 := Aside0.mk (blk_below HQ2.out hb); have HT3 := Aside0.mk (blk_below HQ3.out hb); have HT6 := Aside0.mk (blk_below HQ6.out hb); have HT7 := Aside0.mk (blk_below HQ7.out hb); have HB9 := Aside0.mk (below_step HB8.out hb); clear hb hc0 hc1; have hc3 : w9.cell? ⟨g3, 0, none⟩ = some (.int .i64 a1) := (blk_cell HT3.out 0).trans rfl))
            go_quiet (fail)
            go_wp2_with fail
            go_roundg k1
            case measure => have := HK.out; omega
            case rel => exact ⟨wrap64 (p + 1), rfl, H', ⟨by have := HK.out; omega⟩, ⟨blk_drewN HT2.out _⟩, ⟨blk_drewN HT3.out _⟩, ⟨blk_drewN HT6.out _⟩, ⟨pw_below_drewN HB9.out _⟩⟩
        · rw [if_neg c1] at H
          have c1b : decide (p < nn) = false := decide_eq_false c1
          obtain rfl := Option.some.inj H
          clear c1
          go_wp2_with fail
          go_ret
          exact ⟨rfl, HB.out⟩
/-! ### spec_l01In: function 49 -/
def spec_l01In.f (a0 : Int) (a1 : Int) (a2 : Int) : Option (Bool) := if a0 ≥ a1 then (some (decide (a0 ≤ a2))) else (some false)
set_option maxHeartbeats 8000000 in
set_option maxRecDepth 100000 in
theorem spec_l01In.calls (a0 : Int) (a1 : Int) (a2 : Int) (r : Bool) (w : World) (h : spec_l01In.f a0 a1 a2 = some r) :
  Calls Try.prog 49 #[.int .i64 a0, .int .i64 a1, .int .i64 a2] w fun e w' => e = .returned (.bool r) ∧ Drawn0 w w' := by
 have H : (if a0 ≥ a1 then (some (decide (a0 ≤ a2))) else (some false)) = some r := h
 clear h
 by_cases c4 : a0 ≥ a1
 ·rw [if_pos c4] at H
  have c4b0 : decide (a1 ≤ a0) = true := decide_eq_true c4
  clear c4
  obtain rfl := Option.some.inj H
  go_enter Try.func49, Try.ntmps49
  go_wp2
  go_ret
  exact ⟨by first | rfl | (simp; done) | (simp [*]; done), by repeat (first | exact Drawn0.refl _ | apply Drawn0.step)⟩
 ·rw [if_neg c4] at H
  have c4b0 : decide (a1 ≤ a0) = false := decide_eq_false c4
  clear c4
  obtain rfl := Option.some.inj H
  go_enter Try.func49, Try.ntmps49
  go_wp2
  go_ret
  exact ⟨by first | rfl | (simp; done) | (simp [*]; done), by repeat (first | exact Drawn0.refl _ | apply Drawn0.step)⟩
/-! ### spec_l10Is: function 41 -/
mutual
def spec_l10Is.j0 : Nat → Bool → Int → List (List Int) → Option (Bool)
 | 0, _, _, _ => none
 | k + 1, x14, x151000, x151001 => if x14 = true then (some false) else (spec_l10Is.l0 k 0 x151000 x151001)
def spec_l10Is.l0 : Nat → Int → Int → List (List Int) → Option (Bool)
 | 0, _, _, _ => none
 | k + 1, x3, x151000, x151001 => if x3 < (x151001.length : Int) then (if 0 ≤ x3 then (if ((rd_L1 x151001 x3).length : Int) = 2 then (if 0 < ((rd_L1 x151001 x3).length : Int) then ((spec_l01In.f (rd (rd_L1 x151001 x3) 0) 0 (wrap64 (x151000 - 1))).bind fun t154 => (if t154 = true then (if 1 < ((rd_L1 x151001 x3).length : Int) then ((spec_l01In.f (rd (rd_L1 x151001 x3) 1) 0 (wrap64 (x151000 - 1))).bind fun t156 => (if t156 = true then (spec_l10Is.j2 k x3 (rd_L1 x151001 x3) (decide ((rd (rd_L1 x151001 x3) 0) ≥ (rd (rd_L1 x151001 x3) 1))) x151000 x151001) else (spec_l10Is.j2 k x3 (rd_L1 x151001 x3) true x151000 x151001))) else (none)) else (spec_l10Is.j2 k x3 (rd_L1 x151001 x3) true x151000 x151001))) else (none)) else (spec_l10Is.j2 k x3 (rd_L1 x151001 x3) true x151000 x151001)) else (none)) else (some true)
def spec_l10Is.j2 : Nat → Int → List Int → Bool → Int → List (List Int) → Option (Bool)
 | 0, _, _, _, _, _ => none
 | k + 1, x3, x4, x58, x151000, x151001 => if x58 = true then (some false) else (if x3 > 0 then (if 0 ≤ (wrap64 (x3 - 1)) then (if (wrap64 (x3 - 1)) < (x151001.length : Int) then (if 0 < ((rd_L1 x151001 (wrap64 (x3 - 1))).length : Int) then (if 0 < (x4.length : Int) then (if (rd (rd_L1 x151001 (wrap64 (x3 - 1))) 0) > (rd x4 0) then (some false) else (if (rd (rd_L1 x151001 (wrap64 (x3 - 1))) 0) = (rd x4 0) then (if 1 < ((rd_L1 x151001 (wrap64 (x3 - 1))).length : Int) then (if 1 < (x4.length : Int) then (if (rd (rd_L1 x151001 (wrap64 (x3 - 1))) 1) > (rd x4 1) then (some false) else (spec_l10Is.l0 k (wrap64 (x3 + 1)) x151000 x151001)) else (none)) else (none)) else (spec_l10Is.l0 k (wrap64 (x3 + 1)) x151000 x151001))) else (none)) else (none)) else (none)) else (none)) else (spec_l10Is.l0 k (wrap64 (x3 + 1)) x151000 x151001))
end
def spec_l10Is.f (k : Nat) (a0_0 : Int) (l0_1 : List (List Int)) : Option (Bool) := (spec_l01In.f a0_0 2 8).bind fun t151 => (if t151 = true then (spec_l10Is.j0 k (decide ((l0_1.length : Int) > 10)) a0_0 l0_1) else (spec_l10Is.j0 k true a0_0 l0_1))
theorem spec_l10Is.mono_l : ∀ k, (∀ y0 y1 y2, LeO (spec_l10Is.j0 k y0 y1 y2) (spec_l10Is.j0 (k + 1) y0 y1 y2)) ∧ (∀ y0 y1 y2, LeO (spec_l10Is.l0 k y0 y1 y2) (spec_l10Is.l0 (k + 1) y0 y1 y2)) ∧ (∀ y0 y1 y2 y3 y4, LeO (spec_l10Is.j2 k y0 y1 y2 y3 y4) (spec_l10Is.j2 (k + 1) y0 y1 y2 y3 y4))
 | 0 => ⟨fun _ _ _ r h => by simp [spec_l10Is.j0] at h, fun _ _ _ r h => by simp [spec_l10Is.l0] at h, fun _ _ _ _ _ r h => by simp [spec_l10Is.j2] at h⟩
 | k + 1 => by
  obtain ⟨ih0, ih1, ih2⟩ := spec_l10Is.mono_l k
  refine ⟨?_, ?_, ?_⟩
  ·intro y0 y1 y2
   unfold spec_l10Is.j0
   repeat' first
   | (with_reducible exact ih0 _ _ _)
   | (with_reducible exact ih1 _ _ _)
   | (with_reducible exact ih2 _ _ _ _ _)
   | (with_reducible exact LeO.refl _)
   | (with_reducible exact LeO.none _)
   | (with_reducible refine LeO.ite ?_ ?_)
   | (with_reducible refine LeO.bind ?_ (fun _ => ?_))
   | exact ih0 _ _ _
   | exact ih1 _ _ _
   | exact ih2 _ _ _ _ _
   | exact LeO.none _
   | refine LeO.ite ?_ ?_
   | refine LeO.bind ?_ (fun _ => ?_)
  ·intro y0 y1 y2
   unfold spec_l10Is.l0
   repeat' first
   | (with_reducible exact ih0 _ _ _)
   | (with_reducible exact ih1 _ _ _)
   | (with_reducible exact ih2 _ _ _ _ _)
   | (with_reducible exact LeO.refl _)
   | (with_reducible exact LeO.none _)
   | (with_reducible refine LeO.ite ?_ ?_)
   | (with_reducible refine LeO.bind ?_ (fun _ => ?_))
   | exact ih0 _ _ _
   | exact ih1 _ _ _
   | exact ih2 _ _ _ _ _
   | exact LeO.none _
   | refine LeO.ite ?_ ?_
   | refine LeO.bind ?_ (fun _ => ?_)
  ·intro y0 y1 y2 y3 y4
   unfold spec_l10Is.j2
   repeat' first
   | (with_reducible exact ih0 _ _ _)
   | (with_reducible exact ih1 _ _ _)
   | (with_reducible exact ih2 _ _ _ _ _)
   | (with_reducible exact LeO.refl _)
   | (with_reducible exact LeO.none _)
   | (with_reducible refine LeO.ite ?_ ?_)
   | (with_reducible refine LeO.bind ?_ (fun _ => ?_))
   | exact ih0 _ _ _
   | exact ih1 _ _ _
   | exact ih2 _ _ _ _ _
   | exact LeO.none _
   | refine LeO.ite ?_ ?_
   | refine LeO.bind ?_ (fun _ => ?_)
theorem spec_l10Is.mono : ∀ a0 a1 k, LeO (spec_l10Is.f k a0 a1) (spec_l10Is.f (k + 1) a0 a1) := by
 intro a0 a1 k
 obtain ⟨ih0, ih1, ih2⟩ := spec_l10Is.mono_l k
 unfold spec_l10Is.f
 repeat' first
   | (with_reducible exact ih0 _ _ _)
   | (with_reducible exact ih1 _ _ _)
   | (with_reducible exact ih2 _ _ _ _ _)
   | (with_reducible exact LeO.refl _)
   | (with_reducible exact LeO.none _)
   | (with_reducible refine LeO.ite ?_ ?_)
   | (with_reducible refine LeO.bind ?_ (fun _ => ?_))
   | exact ih0 _ _ _
   | exact ih1 _ _ _
   | exact ih2 _ _ _ _ _
   | exact LeO.none _
   | refine LeO.ite ?_ ?_
   | refine LeO.bind ?_ (fun _ => ?_)
set_option maxHeartbeats 8000000 in
set_option maxRecDepth 100000 in
theorem spec_l10Is.calls (k : Nat) (a0_0 : Int) (A0_1 : Option Addr) (c0_1 : Nat) (l0_1 : List (List Int)) (r : Bool) (w : World) (hr0_1 : Kd.C (Kd.slice 2 (Kd.int .i64)) w A0_1 l0_1.length l0_1) (hc0_1 : l0_1.length ≤ c0_1) (h : spec_l10Is.f k a0_0 l0_1 = some r) :
  Calls Try.prog 41 #[.agg #[.int .i64 a0_0, .slice A0_1 l0_1.length c0_1]] w fun e w' => e = .returned (.bool r) ∧ Below w.heap.size w w' := by
 have hu33 := Try.underlying33
 have HR0_1 := Aside0.mk hr0_1
 have HC0_1 := Aside0.mk hc0_1
 clear hr0_1 hc0_1
 have HB := Aside0.mk (Below.refl w.heap.size w)
 have H : ((spec_l01In.f a0_0 2 8).bind fun t151 => (if t151 = true then (spec_l10Is.j0 k (decide ((l0_1.length : Int) > 10)) a0_0 l0_1) else (spec_l10Is.j0 k true a0_0 l0_1))) = some r := h
 clear h
 have HC2 := Aside0.mk H
 clear H
 go_enter Try.func41, Try.ntmps41
 go_upto_region 1 with (first | ((with_reducible refine gate_dst (N := 1) rfl ?_); (try (refine gate_guard (by rfl) ?_; dsimp only)); refine box_event ?hg (N := 1) ?hd (cs := #[.int .i64 a0_0, .slice A0_1 l0_1.length c0_1]) (t := 33) ?hr ?_; (case hd => rfl); (case hg => rfl); (case hr => first | (go_simp; done) | (go_simp; rfl)); intro gb150 hg w3 hbox hb; have n0_ := Aside0.mk (below_step (by repeat (first | (with_reducible first | exact HB.out | apply below_alloc | apply pw_below_drewN | apply below_drew1) | exact HB.out)) hb); have n1_ := Aside0.mk (hbox); have n2_ := Aside0.mk ((by rw [hg]; exact (below_size (by repeat (first | (with_reducible first | exact HB.out | apply below_alloc | apply pw_below_drewN | apply below_drew1) | exact HB.out))) : w.heap.size ≤ gb150)); have n3_ := Aside0.mk ((by rw [hg]; exact (below_size (by repeat (first | (with_reducible first | exact HB.out | apply below_alloc | apply pw_below_drewN | apply below_drew1) | exact HB.out))) : w.heap.size ≤ gb150)); clear HB; have HB := n0_; have BK150 := n1_; have GW150 := n2_; have GE150 := n3_; clear n0_ n1_ n2_ n3_; clear hb hbox hg))
 repeat (go_quiet (first | ((with_reducible refine gate_dst (N := 1) rfl ?_); (try (refine gate_guard (by rfl) ?_; dsimp only)); refine box_event ?hg (N := 1) ?hd (cs := #[.int .i64 a0_0, .slice A0_1 l0_1.length c0_1]) (t := 33) ?hr ?_; (case hd => rfl); (case hg => rfl); (case hr => first | (go_simp; done) | (go_simp; rfl)); intro gb150 hg w3 hbox hb; have n0_ := Aside0.mk (below_step (by repeat (first | (with_reducible first | exact HB.out | apply below_alloc | apply pw_below_drewN | apply below_drew1) | exact HB.out)) hb); have n1_ := Aside0.mk (hbox); have n2_ := Aside0.mk ((by rw [hg]; exact (below_size (by repeat (first | (with_reducible first | exact HB.out | apply below_alloc | apply pw_below_drewN | apply below_drew1) | exact HB.out))) : w.heap.size ≤ gb150)); have n3_ := Aside0.mk ((by rw [hg]; exact (below_size (by repeat (first | (with_reducible first | exact HB.out | apply below_alloc | apply pw_below_drewN | apply below_drew1) | exact HB.out))) : w.heap.size ≤ gb150)); clear HB; have HB := n0_; have BK150 := n1_; have GW150 := n2_; have GE150 := n3_; clear n0_ n1_ n2_ n3_; clear hb hbox hg)); go_upto_region 1 with (first | ((with_reducible refine gate_dst (N := 1) rfl ?_); (try (refine gate_guard (by rfl) ?_; dsimp only)); refine box_event ?hg (N := 1) ?hd (cs := #[.int .i64 a0_0, .slice A0_1 l0_1.length c0_1]) (t := 33) ?hr ?_; (case hd => rfl); (case hg => rfl); (case hr => first | (go_simp; done) | (go_simp; rfl)); intro gb150 hg w3 hbox hb; have n0_ := Aside0.mk (below_step (by repeat (first | (with_reducible first | exact HB.out | apply below_alloc | apply pw_below_drewN | apply below_drew1) | exact HB.out)) hb); have n1_ := Aside0.mk (hbox); have n2_ := Aside0.mk ((by rw [hg]; exact (below_size (by repeat (first | (with_reducible first | exact HB.out | apply below_alloc | apply pw_below_drewN | apply below_drew1) | exact HB.out))) : w.heap.size ≤ gb150)); have n3_ := Aside0.mk ((by rw [hg]; exact (below_size (by repeat (first | (with_reducible first | exact HB.out | apply below_alloc | apply pw_below_drewN | apply below_drew1) | exact HB.out))) : w.heap.size ≤ gb150)); clear HB; have HB := n0_; have BK150 := n1_; have GW150 := n2_; have GE150 := n3_; clear n0_ n1_ n2_ n3_; clear hb hbox hg)))
 (try simp only [Act.put, List.setIfInBounds_toArray, List.set_cons_zero, List.set_cons_succ])
 go_cut [14] (fun v14 wc => ∃ (kq : Nat) (x14_1 : Bool), v14 = .bool x14_1 ∧ Aside0 (spec_l10Is.j0 kq x14_1 a0_0 l0_1 = some r) ∧ Aside0 (kq ≤ k) ∧ Aside0 (wc.heap[gb150]? = some (.cells #[.int .i64 a0_0, (.slice A0_1 l0_1.length c0_1)] 33 (0, 0))) ∧ Aside0 (Below w.heap.size w wc))
 case first =>
  have H := HC2.out
  clear HC2
  replace H := Option.bind_eq_some_iff.mp H
  obtain ⟨t151, A40, H⟩ := H
  replace H : (if t151 = true then (spec_l10Is.j0 k (decide ((l0_1.length : Int) > 10)) a0_0 l0_1) else (spec_l10Is.j0 k true a0_0 l0_1)) = some r := H
  have A4 := Aside0.mk A40
  clear A40
  by_cases c5 : t151 = true
  ·subst c5
   have H1 : (spec_l10Is.j0 k (decide ((l0_1.length : Int) > 10)) a0_0 l0_1) = some r := by rw [if_pos rfl] at H; exact H
   clear H
   have H := H1
   clear H1
   have H' := Aside0.mk H
   clear H
   have hcz6_0 : w3.cell? ⟨gb150, 0, none⟩ = some (.int .i64 a0_0) := (blk_cell BK150.out 0).trans rfl
   have hcz6_1 : w3.cell? ⟨gb150, 1, none⟩ = some (.slice A0_1 l0_1.length c0_1) := (blk_cell BK150.out 1).trans rfl
   have hfz6_0 := blk_frozen BK150.out 0
   have hfz6_1 := blk_frozen BK150.out 1
   go_wp2_with (first | (go_at_call 49; (with_reducible refine (spec_l01In.calls a0_0 2 8 true _ A4.out).mono ?_); rintro e w' ⟨rfl, ⟨nd, rfl⟩⟩; (try first | exact ⟨rfl, _, World.drewN_drewN _ _ _⟩ | exact ⟨rfl, _, Eq.trans (World.drewN_drewN _ _ _) (congrArg (World.drewN _) (Nat.add_assoc _ _ _))⟩)))
   repeat (go_quiet (first | (go_at_call 49; (with_reducible refine (spec_l01In.calls a0_0 2 8 true _ A4.out).mono ?_); rintro e w' ⟨rfl, ⟨nd, rfl⟩⟩; (try first | exact ⟨rfl, _, World.drewN_drewN _ _ _⟩ | exact ⟨rfl, _, Eq.trans (World.drewN_drewN _ _ _) (congrArg (World.drewN _) (Nat.add_assoc _ _ _))⟩))); try go_wp2_with (first | (go_at_call 49; (with_reducible refine (spec_l01In.calls a0_0 2 8 true _ A4.out).mono ?_); rintro e w' ⟨rfl, ⟨nd, rfl⟩⟩; (try first | exact ⟨rfl, _, World.drewN_drewN _ _ _⟩ | exact ⟨rfl, _, Eq.trans (World.drewN_drewN _ _ _) (congrArg (World.drewN _) (Nat.add_assoc _ _ _))⟩))))
   go_meet
   case rel => exact ⟨_, (decide ((l0_1.length : Int) > 10)), (by first | rfl | (simp; done) | (simp [*]; done)), H', ⟨by first | omega | exact Nat.le_refl _⟩, ⟨by (with_reducible repeat (first | refine blk_drewN ?_ _ | refine blk_drew ?_ | refine blk_alloc ?_ _)); exact BK150.out⟩, ⟨by repeat (first | (with_reducible first | exact HB.out | apply below_alloc | apply pw_below_drewN | apply below_drew1 | refine below_set ?_ GE150.out) | exact HB.out)⟩⟩
  ·replace c5 := Bool.eq_false_iff.mpr c5
   subst c5
   have H1 : (spec_l10Is.j0 k true a0_0 l0_1) = some r := by rw [if_neg (show ¬ (false = true) by decide)] at H; exact H
   clear H
   have H := H1
   clear H1
   have H' := Aside0.mk H
   clear H
   have hcz7_0 : w3.cell? ⟨gb150, 0, none⟩ = some (.int .i64 a0_0) := (blk_cell BK150.out 0).trans rfl
   have hcz7_1 : w3.cell? ⟨gb150, 1, none⟩ = some (.slice A0_1 l0_1.length c0_1) := (blk_cell BK150.out 1).trans rfl
   have hfz7_0 := blk_frozen BK150.out 0
   have hfz7_1 := blk_frozen BK150.out 1
   go_wp2_with (first | (go_at_call 49; (with_reducible refine (spec_l01In.calls a0_0 2 8 false _ A4.out).mono ?_); rintro e w' ⟨rfl, ⟨nd, rfl⟩⟩; (try first | exact ⟨rfl, _, World.drewN_drewN _ _ _⟩ | exact ⟨rfl, _, Eq.trans (World.drewN_drewN _ _ _) (congrArg (World.drewN _) (Nat.add_assoc _ _ _))⟩)))
   repeat (go_quiet (first | (go_at_call 49; (with_reducible refine (spec_l01In.calls a0_0 2 8 false _ A4.out).mono ?_); rintro e w' ⟨rfl, ⟨nd, rfl⟩⟩; (try first | exact ⟨rfl, _, World.drewN_drewN _ _ _⟩ | exact ⟨rfl, _, Eq.trans (World.drewN_drewN _ _ _) (congrArg (World.drewN _) (Nat.add_assoc _ _ _))⟩))); try go_wp2_with (first | (go_at_call 49; (with_reducible refine (spec_l01In.calls a0_0 2 8 false _ A4.out).mono ?_); rintro e w' ⟨rfl, ⟨nd, rfl⟩⟩; (try first | exact ⟨rfl, _, World.drewN_drewN _ _ _⟩ | exact ⟨rfl, _, Eq.trans (World.drewN_drewN _ _ _) (congrArg (World.drewN _) (Nat.add_assoc _ _ _))⟩))))
   go_meet
   case rel => exact ⟨_, (true), (by first | rfl | (simp; done) | (simp [*]; done)), H', ⟨by first | omega | exact Nat.le_refl _⟩, ⟨by (with_reducible repeat (first | refine blk_drewN ?_ _ | refine blk_drew ?_ | refine blk_alloc ?_ _)); exact BK150.out⟩, ⟨by repeat (first | (with_reducible first | exact HB.out | apply below_alloc | apply pw_below_drewN | apply below_drew1 | refine below_set ?_ GE150.out) | exact HB.out)⟩⟩
 case rest =>
  clear HC2
  try clear p2
  try clear c4
  try clear c5
  try clear hcz6_0
  try clear hcz6_1
  try clear hcz7_0
  try clear hcz7_1
  try clear hfz6_0
  try clear hfz6_1
  try clear hfz7_0
  try clear hfz7_1
  obtain ⟨kq, x14_1, rfl, HA, HJ1, BK150, HB⟩ := hcut
  cases kq with
  | zero => exact absurd HA.out (by simp [spec_l10Is.j0])
  | succ kj1 =>
   have H := HA.out
   clear HA
   simp only [spec_l10Is.j0] at H
   by_cases c8 : x14_1 = true
   ·subst c8
    have H1 : (some false) = some r := by rw [if_pos rfl] at H; exact H
    clear H
    have H := H1
    clear H1
    obtain rfl := Option.some.inj H
    go_wp2
    repeat (go_quiet (fail); try go_wp2)
    go_ret
    exact ⟨by first | rfl | (simp [errW_none, errW_some] <;> rfl) | (simp [*, errW_none, errW_some] <;> rfl), by repeat (first | (with_reducible first | exact HB.out | apply below_alloc | apply pw_below_drewN | apply below_drew1 | refine below_set ?_ GE150.out) | exact HB.out)⟩
   ·replace c8 := Bool.eq_false_iff.mpr c8
    subst c8
    have H1 : (spec_l10Is.l0 kj1 0 a0_0 l0_1) = some r := by rw [if_neg (show ¬ (false = true) by decide)] at H; exact H
    clear H
    have H := H1
    clear H1
    have H' := Aside0.mk H
    clear H
    go_wp2
    repeat (go_quiet (fail); try go_wp2)
    go_loopg [3] kj1 (fun kq v3 w' => ∃ (x3_2 : Int), v3 = .int .i64 x3_2 ∧ Aside0 (spec_l10Is.l0 kq x3_2 a0_0 l0_1 = some r) ∧ Aside0 (kq ≤ kj1) ∧ Aside0 (w'.heap[gb150]? = some (.cells #[.int .i64 a0_0, (.slice A0_1 l0_1.length c0_1)] 33 (0, 0))) ∧ Aside0 (Below w.heap.size w w'))
    case atStart => exact ⟨(0), (by first | rfl | (simp; done) | (simp [*]; done)), H', ⟨Nat.le_refl _⟩, ⟨by (with_reducible repeat (first | refine blk_drewN ?_ _ | refine blk_drew ?_ | refine blk_alloc ?_ _)); exact BK150.out⟩, ⟨by repeat (first | (with_reducible first | exact HB.out | apply below_alloc | apply pw_below_drewN | apply below_drew1 | refine below_set ?_ GE150.out) | exact HB.out)⟩⟩
    case round =>
     clear H'
     try clear p2
     try clear c4
     try clear c5
     try clear c8
     try clear hcz6_0
     try clear hcz6_1
     try clear hcz7_0
     try clear hcz7_1
     try clear hfz6_0
     try clear hfz6_1
     try clear hfz7_0
     try clear hfz7_1
     try clear p2
     obtain ⟨x3_2, rfl, HA, HK2, BK150, HB⟩ := hrel
     cases gk with
     | zero => exact absurd HA.out (by simp [spec_l10Is.l0])
     | succ k2 =>
      have H := HA.out
      clear HA
      simp only [spec_l10Is.l0] at H
      by_cases c9 : x3_2 < (l0_1.length : Int)
      ·rw [if_pos c9] at H
       have c9b0 : decide (x3_2 < (l0_1.length : Int)) = true := decide_eq_true c9
       clear c9
       by_cases c10 : 0 ≤ x3_2
       ·rw [if_pos c10] at H
        have c10b0 : decide (0 ≤ x3_2) = true := decide_eq_true c10
        clear c10
        have HC11 := Aside0.mk H
        clear H
        have hcz12_0 : wr.cell? ⟨gb150, 0, none⟩ = some (.int .i64 a0_0) := (blk_cell BK150.out 0).trans rfl
        have hcz12_1 : wr.cell? ⟨gb150, 1, none⟩ = some (.slice A0_1 l0_1.length c0_1) := (blk_cell BK150.out 1).trans rfl
        have hfz12_0 := blk_frozen BK150.out 0
        have hfz12_1 := blk_frozen BK150.out 1
        have p152 : 0 ≤ (x3_2 : Int) := of_decide_eq_true (by first | (with_reducible assumption) | assumption)
        have q152 : x3_2 < (l0_1.length : Int) := of_decide_eq_true (by first | (with_reducible assumption) | assumption)
        obtain ⟨ad152, A152_0, c152_0, e152, hx152_0, hl152_0, hi152_0⟩ := at_L1 HR0_1.out x3_2 p152 q152
        cases e152
        replace hx152_0 := (HB.out.cell (World.block_lt_of_cell? w _ hx152_0)).trans hx152_0
        have HR152_0 := Aside0.mk hi152_0
        have HC152_0 := Aside0.mk hl152_0
        clear hi152_0 hl152_0
        replace p152 := eq_true p152
        replace q152 := eq_true q152
        go_upto_region 7 with (fail)
        repeat (go_quiet (fail); go_upto_region 7 with (fail))
        go_cut [58] (fun v58 wc => ∃ (kq : Nat) (x58_10 : Bool), v58 = .bool x58_10 ∧ Aside0 (spec_l10Is.j2 kq x3_2 (rd_L1 l0_1 x3_2) x58_10 a0_0 l0_1 = some r) ∧ Aside0 (kq ≤ k2) ∧ Aside0 (wc.heap[gb150]? = some (.cells #[.int .i64 a0_0, (.slice (some ad152) l0_1.length c0_1)] 33 (0, 0))) ∧ Aside0 (Below w.heap.size w wc))
        case first =>
         have H := HC11.out
         clear HC11
         by_cases c13 : ((rd_L1 l0_1 x3_2).length : Int) = 2
         ·rw [if_pos c13] at H
          have c13b0 : (((rd_L1 l0_1 x3_2).length : Int) == 2) = true := beq_iff_eq.mpr c13
          have c13b1 : (((rd_L1 l0_1 x3_2).length : Int) != 2) = false := bne_eq_false_iff_eq.mpr c13
          clear c13
          (first | rw [c13b0] | (simp only [i64_w, i32_w]; rw [c13b0]) | skip)
          by_cases c14 : 0 < ((rd_L1 l0_1 x3_2).length : Int)
          ·rw [if_pos c14] at H
           have c14b0 : decide (0 < ((rd_L1 l0_1 x3_2).length : Int)) = true := decide_eq_true c14
           have c14b1 : decide (0 < (rd_L1 l0_1 x3_2).length) = true := decide_eq_true (by omega)
           clear c14
           replace H := Option.bind_eq_some_iff.mp H
           obtain ⟨t154, A150, H⟩ := H
           replace H : (if t154 = true then (if 1 < ((rd_L1 l0_1 x3_2).length : Int) then ((spec_l01In.f (rd (rd_L1 l0_1 x3_2) 1) 0 (wrap64 (a0_0 - 1))).bind fun t156 => (if t156 = true then (spec_l10Is.j2 k2 x3_2 (rd_L1 l0_1 x3_2) (decide ((rd (rd_L1 l0_1 x3_2) 0) ≥ (rd (rd_L1 l0_1 x3_2) 1))) a0_0 l0_1) else (spec_l10Is.j2 k2 x3_2 (rd_L1 l0_1 x3_2) true a0_0 l0_1))) else (none)) else (spec_l10Is.j2 k2 x3_2 (rd_L1 l0_1 x3_2) true a0_0 l0_1)) = some r := H
           have A15 := Aside0.mk A150
           clear A150
           by_cases c16 : t154 = true
           ·subst c16
            have H1 : (if 1 < ((rd_L1 l0_1 x3_2).length : Int) then ((spec_l01In.f (rd (rd_L1 l0_1 x3_2) 1) 0 (wrap64 (a0_0 - 1))).bind fun t156 => (if t156 = true then (spec_l10Is.j2 k2 x3_2 (rd_L1 l0_1 x3_2) (decide ((rd (rd_L1 l0_1 x3_2) 0) ≥ (rd (rd_L1 l0_1 x3_2) 1))) a0_0 l0_1) else (spec_l10Is.j2 k2 x3_2 (rd_L1 l0_1 x3_2) true a0_0 l0_1))) else (none)) = some r := by rw [if_pos rfl] at H; exact H
            clear H
            have H := H1
            clear H1
            by_cases c17 : 1 < ((rd_L1 l0_1 x3_2).length : Int)
            ·rw [if_pos c17] at H
             have c17b0 : decide (1 < ((rd_L1 l0_1 x3_2).length : Int)) = true := decide_eq_true c17
             have c17b1 : decide (1 < (rd_L1 l0_1 x3_2).length) = true := decide_eq_true (by omega)
             clear c17
             replace H := Option.bind_eq_some_iff.mp H
             obtain ⟨t156, A180, H⟩ := H
             replace H : (if t156 = true then (spec_l10Is.j2 k2 x3_2 (rd_L1 l0_1 x3_2) (decide ((rd (rd_L1 l0_1 x3_2) 0) ≥ (rd (rd_L1 l0_1 x3_2) 1))) a0_0 l0_1) else (spec_l10Is.j2 k2 x3_2 (rd_L1 l0_1 x3_2) true a0_0 l0_1)) = some r := H
             have A18 := Aside0.mk A180
             clear A180
             by_cases c19 : t156 = true
             ·subst c19
              have H1 : (spec_l10Is.j2 k2 x3_2 (rd_L1 l0_1 x3_2) (decide ((rd (rd_L1 l0_1 x3_2) 0) ≥ (rd (rd_L1 l0_1 x3_2) 1))) a0_0 l0_1) = some r := by rw [if_pos rfl] at H; exact H
              clear H
              have H := H1
              clear H1
              have H' := Aside0.mk H
              clear H
              have p153 : 0 ≤ (0 : Int) := (by omega)
              have q153 : 0 < ((rd_L1 l0_1 x3_2).length : Int) := of_decide_eq_true (by first | (with_reducible assumption) | assumption)
              obtain ⟨ad153, e153, hx153_0⟩ := Kd.at_int HR152_0.out 0 p153 q153
              cases e153
              have qi153 : (0 < (rd_L1 l0_1 x3_2).length) = True := eq_true (by omega)
              (try rw [show ((0 : Int)).toNat = 0 from rfl] at hx153_0)
              (try rw [Addr.add_zero'] at hx153_0)
              replace hx153_0 := (HB.out.cell (World.block_lt_of_cell? w _ hx153_0)).trans hx153_0
              replace p153 := eq_true p153
              replace q153 := eq_true q153
              have hcz20_0 : wr.cell? ⟨gb150, 0, none⟩ = some (.int .i64 a0_0) := (blk_cell BK150.out 0).trans rfl
              have hcz20_1 : wr.cell? ⟨gb150, 1, none⟩ = some (.slice (some ad152) l0_1.length c0_1) := (blk_cell BK150.out 1).trans rfl
              have hfz20_0 := blk_frozen BK150.out 0
              have hfz20_1 := blk_frozen BK150.out 1
              (try (have p155 : 0 ≤ (1 : Int) := (by omega); have q155 : 1 < ((rd_L1 l0_1 x3_2).length : Int) := of_decide_eq_true (by first | (with_reducible assumption) | assumption); obtain ⟨ad155, e155, hx155_0⟩ := Kd.at_int HR152_0.out 1 p155 q155; obtain rfl : ad153 = ad155 := (by injection e155); (try simp only [show (1 : Int).toNat = 1 from rfl, Nat.reduceMul, Nat.reduceEqDiff, Go.Addr.add, ↓reduceIte] at hx155_0); have qi155 : (1 < (rd_L1 l0_1 x3_2).length) = True := eq_true (by omega); (try rw [show ((1 : Int)).toNat = 1 from rfl] at hx155_0); replace hx155_0 := (HB.out.cell (World.block_lt_of_cell? w _ hx155_0)).trans hx155_0; replace p155 := eq_true p155; replace q155 := eq_true q155))
              (try (have p157 : 0 ≤ (0 : Int) := (by omega); have q157 : 0 < ((rd_L1 l0_1 x3_2).length : Int) := of_decide_eq_true (by first | (with_reducible assumption) | assumption); obtain ⟨ad157, e157, hx157_0⟩ := Kd.at_int HR152_0.out 0 p157 q157; obtain rfl : ad153 = ad157 := (by injection e157); have qi157 : (0 < (rd_L1 l0_1 x3_2).length) = True := eq_true (by omega); (try rw [show ((0 : Int)).toNat = 0 from rfl] at hx157_0); (try rw [Addr.add_zero'] at hx157_0); replace hx157_0 := (HB.out.cell (World.block_lt_of_cell? w _ hx157_0)).trans hx157_0; replace p157 := eq_true p157; replace q157 := eq_true q157; have p158 : 0 ≤ (1 : Int) := (by omega); have q158 : 1 < ((rd_L1 l0_1 x3_2).length : Int) := of_decide_eq_true (by first | (with_reducible assumption) | assumption); obtain ⟨ad158, e158, hx158_0⟩ := Kd.at_int HR152_0.out 1 p158 q158; obtain rfl : ad153 = ad158 := (by injection e158); (try simp only [show (1 : Int).toNat = 1 from rfl, Nat.reduceMul, Nat.reduceEqDiff, Go.Addr.add, ↓reduceIte] at hx158_0); have qi158 : (1 < (rd_L1 l0_1 x3_2).length) = True := eq_true (by omega); (try rw [show ((1 : Int)).toNat = 1 from rfl] at hx158_0); replace hx158_0 := (HB.out.cell (World.block_lt_of_cell? w _ hx158_0)).trans hx158_0; replace p158 := eq_true p158; replace q158 := eq_true q158))
              go_wp2_with (first | (go_at_call 49; (with_reducible refine (spec_l01In.calls (rd (rd_L1 l0_1 x3_2) 0) 0 (wrap64 (a0_0 - 1)) true _ A15.out).mono ?_); rintro e w' ⟨rfl, ⟨nd, rfl⟩⟩; (try first | exact ⟨rfl, _, World.drewN_drewN _ _ _⟩ | exact ⟨rfl, _, Eq.trans (World.drewN_drewN _ _ _) (congrArg (World.drewN _) (Nat.add_assoc _ _ _))⟩); have p155 : 0 ≤ (1 : Int) := (by omega); have q155 : 1 < ((rd_L1 l0_1 x3_2).length : Int) := of_decide_eq_true (by first | (with_reducible assumption) | assumption); obtain ⟨ad155, e155, hx155_0⟩ := Kd.at_int HR152_0.out 1 p155 q155; obtain rfl : ad153 = ad155 := (by injection e155); (try simp only [show (1 : Int).toNat = 1 from rfl, Nat.reduceMul, Nat.reduceEqDiff, Go.Addr.add, ↓reduceIte] at hx155_0); have qi155 : (1 < (rd_L1 l0_1 x3_2).length) = True := eq_true (by omega); (try rw [show ((1 : Int)).toNat = 1 from rfl] at hx155_0); replace hx155_0 := (HB.out.cell (World.block_lt_of_cell? w _ hx155_0)).trans hx155_0; replace p155 := eq_true p155; replace q155 := eq_true q155) | (go_at_call 49; (with_reducible refine (spec_l01In.calls (rd (rd_L1 l0_1 x3_2) 1) 0 (wrap64 (a0_0 - 1)) true _ A18.out).mono ?_); rintro e w' ⟨rfl, ⟨nd, rfl⟩⟩; (try first | exact ⟨rfl, _, World.drewN_drewN _ _ _⟩ | exact ⟨rfl, _, Eq.trans (World.drewN_drewN _ _ _) (congrArg (World.drewN _) (Nat.add_assoc _ _ _))⟩); have p157 : 0 ≤ (0 : Int) := (by omega); have q157 : 0 < ((rd_L1 l0_1 x3_2).length : Int) := of_decide_eq_true (by first | (with_reducible assumption) | assumption); obtain ⟨ad157, e157, hx157_0⟩ := Kd.at_int HR152_0.out 0 p157 q157; obtain rfl : ad153 = ad157 := (by injection e157); have qi157 : (0 < (rd_L1 l0_1 x3_2).length) = True := eq_true (by omega); (try rw [show ((0 : Int)).toNat = 0 from rfl] at hx157_0); (try rw [Addr.add_zero'] at hx157_0); replace hx157_0 := (HB.out.cell (World.block_lt_of_cell? w _ hx157_0)).trans hx157_0; replace p157 := eq_true p157; replace q157 := eq_true q157; have p158 : 0 ≤ (1 : Int) := (by omega); have q158 : 1 < ((rd_L1 l0_1 x3_2).length : Int) := of_decide_eq_true (by first | (with_reducible assumption) | assumption); obtain ⟨ad158, e158, hx158_0⟩ := Kd.at_int HR152_0.out 1 p158 q158; obtain rfl : ad153 = ad158 := (by injection e158); (try simp only [show (1 : Int).toNat = 1 from rfl, Nat.reduceMul, Nat.reduceEqDiff, Go.Addr.add, ↓reduceIte] at hx158_0); have qi158 : (1 < (rd_L1 l0_1 x3_2).length) = True := eq_true (by omega); (try rw [show ((1 : Int)).toNat = 1 from rfl] at hx158_0); replace hx158_0 := (HB.out.cell (World.block_lt_of_cell? w _ hx158_0)).trans hx158_0; replace p158 := eq_true p158; replace q158 := eq_true q158))
              repeat (go_quiet (first | (go_at_call 49; (with_reducible refine (spec_l01In.calls (rd (rd_L1 l0_1 x3_2) 0) 0 (wrap64 (a0_0 - 1)) true _ A15.out).mono ?_); rintro e w' ⟨rfl, ⟨nd, rfl⟩⟩; (try first | exact ⟨rfl, _, World.drewN_drewN _ _ _⟩ | exact ⟨rfl, _, Eq.trans (World.drewN_drewN _ _ _) (congrArg (World.drewN _) (Nat.add_assoc _ _ _))⟩)) | (go_at_call 49; (with_reducible refine (spec_l01In.calls (rd (rd_L1 l0_1 x3_2) 1) 0 (wrap64 (a0_0 - 1)) true _ A18.out).mono ?_); rintro e w' ⟨rfl, ⟨nd, rfl⟩⟩; (try first | exact ⟨rfl, _, World.drewN_drewN _ _ _⟩ | exact ⟨rfl, _, Eq.trans (World.drewN_drewN _ _ _) (congrArg (World.drewN _) (Nat.add_assoc _ _ _))⟩))); try go_wp2_with (first | (go_at_call 49; (with_reducible refine (spec_l01In.calls (rd (rd_L1 l0_1 x3_2) 0) 0 (wrap64 (a0_0 - 1)) true _ A15.out).mono ?_); rintro e w' ⟨rfl, ⟨nd, rfl⟩⟩; (try first | exact ⟨rfl, _, World.drewN_drewN _ _ _⟩ | exact ⟨rfl, _, Eq.trans (World.drewN_drewN _ _ _) (congrArg (World.drewN _) (Nat.add_assoc _ _ _))⟩); have p155 : 0 ≤ (1 : Int) := (by omega); have q155 : 1 < ((rd_L1 l0_1 x3_2).length : Int) := of_decide_eq_true (by first | (with_reducible assumption) | assumption); obtain ⟨ad155, e155, hx155_0⟩ := Kd.at_int HR152_0.out 1 p155 q155; obtain rfl : ad153 = ad155 := (by injection e155); (try simp only [show (1 : Int).toNat = 1 from rfl, Nat.reduceMul, Nat.reduceEqDiff, Go.Addr.add, ↓reduceIte] at hx155_0); have qi155 : (1 < (rd_L1 l0_1 x3_2).length) = True := eq_true (by omega); (try rw [show ((1 : Int)).toNat = 1 from rfl] at hx155_0); replace hx155_0 := (HB.out.cell (World.block_lt_of_cell? w _ hx155_0)).trans hx155_0; replace p155 := eq_true p155; replace q155 := eq_true q155) | (go_at_call 49; (with_reducible refine (spec_l01In.calls (rd (rd_L1 l0_1 x3_2) 1) 0 (wrap64 (a0_0 - 1)) true _ A18.out).mono ?_); rintro e w' ⟨rfl, ⟨nd, rfl⟩⟩; (try first | exact ⟨rfl, _, World.drewN_drewN _ _ _⟩ | exact ⟨rfl, _, Eq.trans (World.drewN_drewN _ _ _) (congrArg (World.drewN _) (Nat.add_assoc _ _ _))⟩); have p157 : 0 ≤ (0 : Int) := (by omega); have q157 : 0 < ((rd_L1 l0_1 x3_2).length : Int) := of_decide_eq_true (by first | (with_reducible assumption) | assumption); obtain ⟨ad157, e157, hx157_0⟩ := Kd.at_int HR152_0.out 0 p157 q157; obtain rfl : ad153 = ad157 := (by injection e157); have qi157 : (0 < (rd_L1 l0_1 x3_2).length) = True := eq_true (by omega); (try rw [show ((0 : Int)).toNat = 0 from rfl] at hx157_0); (try rw [Addr.add_zero'] at hx157_0); replace hx157_0 := (HB.out.cell (World.block_lt_of_cell? w _ hx157_0)).trans hx157_0; replace p157 := eq_true p157; replace q157 := eq_true q157; have p158 : 0 ≤ (1 : Int) := (by omega); have q158 : 1 < ((rd_L1 l0_1 x3_2).length : Int) := of_decide_eq_true (by first | (with_reducible assumption) | assumption); obtain ⟨ad158, e158, hx158_0⟩ := Kd.at_int HR152_0.out 1 p158 q158; obtain rfl : ad153 = ad158 := (by injection e158); (try simp only [show (1 : Int).toNat = 1 from rfl, Nat.reduceMul, Nat.reduceEqDiff, Go.Addr.add, ↓reduceIte] at hx158_0); have qi158 : (1 < (rd_L1 l0_1 x3_2).length) = True := eq_true (by omega); (try rw [show ((1 : Int)).toNat = 1 from rfl] at hx158_0); replace hx158_0 := (HB.out.cell (World.block_lt_of_cell? w _ hx158_0)).trans hx158_0; replace p158 := eq_true p158; replace q158 := eq_true q158)))
              go_meet
              case rel => exact ⟨_, (decide ((rd (rd_L1 l0_1 x3_2) 0) ≥ (rd (rd_L1 l0_1 x3_2) 1))), (by first | rfl | (simp; done) | (simp [*]; done)), H', ⟨by have := HJ1.out; have := HK2.out; first | omega | exact Nat.le_refl _⟩, ⟨by (with_reducible repeat (first | refine blk_drewN ?_ _ | refine blk_drew ?_ | refine blk_alloc ?_ _)); exact BK150.out⟩, ⟨by repeat (first | (with_reducible first | exact HB.out | apply below_alloc | apply pw_below_drewN | apply below_drew1 | refine below_set ?_ GE150.out) | exact HB.out)⟩⟩
             ·replace c19 := Bool.eq_false_iff.mpr c19
              subst c19
              have H1 : (spec_l10Is.j2 k2 x3_2 (rd_L1 l0_1 x3_2) true a0_0 l0_1) = some r := by rw [if_neg (show ¬ (false = true) by decide)] at H; exact H
              clear H
              have H := H1
              clear H1
              have H' := Aside0.mk H
              clear H
              have p153 : 0 ≤ (0 : Int) := (by omega)
              have q153 : 0 < ((rd_L1 l0_1 x3_2).length : Int) := of_decide_eq_true (by first | (with_reducible assumption) | assumption)
              obtain ⟨ad153, e153, hx153_0⟩ := Kd.at_int HR152_0.out 0 p153 q153
              cases e153
              have qi153 : (0 < (rd_L1 l0_1 x3_2).length) = True := eq_true (by omega)
              (try rw [show ((0 : Int)).toNat = 0 from rfl] at hx153_0)
              (try rw [Addr.add_zero'] at hx153_0)
              replace hx153_0 := (HB.out.cell (World.block_lt_of_cell? w _ hx153_0)).trans hx153_0
              replace p153 := eq_true p153
              replace q153 := eq_true q153
              have hcz21_0 : wr.cell? ⟨gb150, 0, none⟩ = some (.int .i64 a0_0) := (blk_cell BK150.out 0).trans rfl
              have hcz21_1 : wr.cell? ⟨gb150, 1, none⟩ = some (.slice (some ad152) l0_1.length c0_1) := (blk_cell BK150.out 1).trans rfl
              have hfz21_0 := blk_frozen BK150.out 0
              have hfz21_1 := blk_frozen BK150.out 1
              (try (have p155 : 0 ≤ (1 : Int) := (by omega); have q155 : 1 < ((rd_L1 l0_1 x3_2).length : Int) := of_decide_eq_true (by first | (with_reducible assumption) | assumption); obtain ⟨ad155, e155, hx155_0⟩ := Kd.at_int HR152_0.out 1 p155 q155; obtain rfl : ad153 = ad155 := (by injection e155); (try simp only [show (1 : Int).toNat = 1 from rfl, Nat.reduceMul, Nat.reduceEqDiff, Go.Addr.add, ↓reduceIte] at hx155_0); have qi155 : (1 < (rd_L1 l0_1 x3_2).length) = True := eq_true (by omega); (try rw [show ((1 : Int)).toNat = 1 from rfl] at hx155_0); replace hx155_0 := (HB.out.cell (World.block_lt_of_cell? w _ hx155_0)).trans hx155_0; replace p155 := eq_true p155; replace q155 := eq_true q155))
              go_wp2_with (first | (go_at_call 49; (with_reducible refine (spec_l01In.calls (rd (rd_L1 l0_1 x3_2) 0) 0 (wrap64 (a0_0 - 1)) true _ A15.out).mono ?_); rintro e w' ⟨rfl, ⟨nd, rfl⟩⟩; (try first | exact ⟨rfl, _, World.drewN_drewN _ _ _⟩ | exact ⟨rfl, _, Eq.trans (World.drewN_drewN _ _ _) (congrArg (World.drewN _) (Nat.add_assoc _ _ _))⟩); have p155 : 0 ≤ (1 : Int) := (by omega); have q155 : 1 < ((rd_L1 l0_1 x3_2).length : Int) := of_decide_eq_true (by first | (with_reducible assumption) | assumption); obtain ⟨ad155, e155, hx155_0⟩ := Kd.at_int HR152_0.out 1 p155 q155; obtain rfl : ad153 = ad155 := (by injection e155); (try simp only [show (1 : Int).toNat = 1 from rfl, Nat.reduceMul, Nat.reduceEqDiff, Go.Addr.add, ↓reduceIte] at hx155_0); have qi155 : (1 < (rd_L1 l0_1 x3_2).length) = True := eq_true (by omega); (try rw [show ((1 : Int)).toNat = 1 from rfl] at hx155_0); replace hx155_0 := (HB.out.cell (World.block_lt_of_cell? w _ hx155_0)).trans hx155_0; replace p155 := eq_true p155; replace q155 := eq_true q155) | (go_at_call 49; (with_reducible refine (spec_l01In.calls (rd (rd_L1 l0_1 x3_2) 1) 0 (wrap64 (a0_0 - 1)) false _ A18.out).mono ?_); rintro e w' ⟨rfl, ⟨nd, rfl⟩⟩; (try first | exact ⟨rfl, _, World.drewN_drewN _ _ _⟩ | exact ⟨rfl, _, Eq.trans (World.drewN_drewN _ _ _) (congrArg (World.drewN _) (Nat.add_assoc _ _ _))⟩)))
              repeat (go_quiet (first | (go_at_call 49; (with_reducible refine (spec_l01In.calls (rd (rd_L1 l0_1 x3_2) 0) 0 (wrap64 (a0_0 - 1)) true _ A15.out).mono ?_); rintro e w' ⟨rfl, ⟨nd, rfl⟩⟩; (try first | exact ⟨rfl, _, World.drewN_drewN _ _ _⟩ | exact ⟨rfl, _, Eq.trans (World.drewN_drewN _ _ _) (congrArg (World.drewN _) (Nat.add_assoc _ _ _))⟩)) | (go_at_call 49; (with_reducible refine (spec_l01In.calls (rd (rd_L1 l0_1 x3_2) 1) 0 (wrap64 (a0_0 - 1)) false _ A18.out).mono ?_); rintro e w' ⟨rfl, ⟨nd, rfl⟩⟩; (try first | exact ⟨rfl, _, World.drewN_drewN _ _ _⟩ | exact ⟨rfl, _, Eq.trans (World.drewN_drewN _ _ _) (congrArg (World.drewN _) (Nat.add_assoc _ _ _))⟩))); try go_wp2_with (first | (go_at_call 49; (with_reducible refine (spec_l01In.calls (rd (rd_L1 l0_1 x3_2) 0) 0 (wrap64 (a0_0 - 1)) true _ A15.out).mono ?_); rintro e w' ⟨rfl, ⟨nd, rfl⟩⟩; (try first | exact ⟨rfl, _, World.drewN_drewN _ _ _⟩ | exact ⟨rfl, _, Eq.trans (World.drewN_drewN _ _ _) (congrArg (World.drewN _) (Nat.add_assoc _ _ _))⟩); have p155 : 0 ≤ (1 : Int) := (by omega); have q155 : 1 < ((rd_L1 l0_1 x3_2).length : Int) := of_decide_eq_true (by first | (with_reducible assumption) | assumption); obtain ⟨ad155, e155, hx155_0⟩ := Kd.at_int HR152_0.out 1 p155 q155; obtain rfl : ad153 = ad155 := (by injection e155); (try simp only [show (1 : Int).toNat = 1 from rfl, Nat.reduceMul, Nat.reduceEqDiff, Go.Addr.add, ↓reduceIte] at hx155_0); have qi155 : (1 < (rd_L1 l0_1 x3_2).length) = True := eq_true (by omega); (try rw [show ((1 : Int)).toNat = 1 from rfl] at hx155_0); replace hx155_0 := (HB.out.cell (World.block_lt_of_cell? w _ hx155_0)).trans hx155_0; replace p155 := eq_true p155; replace q155 := eq_true q155) | (go_at_call 49; (with_reducible refine (spec_l01In.calls (rd (rd_L1 l0_1 x3_2) 1) 0 (wrap64 (a0_0 - 1)) false _ A18.out).mono ?_); rintro e w' ⟨rfl, ⟨nd, rfl⟩⟩; (try first | exact ⟨rfl, _, World.drewN_drewN _ _ _⟩ | exact ⟨rfl, _, Eq.trans (World.drewN_drewN _ _ _) (congrArg (World.drewN _) (Nat.add_assoc _ _ _))⟩))))
              go_meet
              case rel => exact ⟨_, (true), (by first | rfl | (simp; done) | (simp [*]; done)), H', ⟨by have := HJ1.out; have := HK2.out; first | omega | exact Nat.le_refl _⟩, ⟨by (with_reducible repeat (first | refine blk_drewN ?_ _ | refine blk_drew ?_ | refine blk_alloc ?_ _)); exact BK150.out⟩, ⟨by repeat (first | (with_reducible first | exact HB.out | apply below_alloc | apply pw_below_drewN | apply below_drew1 | refine below_set ?_ GE150.out) | exact HB.out)⟩⟩
            ·rw [if_neg c17] at H
             exact absurd H (by simp)
           ·replace c16 := Bool.eq_false_iff.mpr c16
            subst c16
            have H1 : (spec_l10Is.j2 k2 x3_2 (rd_L1 l0_1 x3_2) true a0_0 l0_1) = some r := by rw [if_neg (show ¬ (false = true) by decide)] at H; exact H
            clear H
            have H := H1
            clear H1
            have H' := Aside0.mk H
            clear H
            have p153 : 0 ≤ (0 : Int) := (by omega)
            have q153 : 0 < ((rd_L1 l0_1 x3_2).length : Int) := of_decide_eq_true (by first | (with_reducible assumption) | assumption)
            obtain ⟨ad153, e153, hx153_0⟩ := Kd.at_int HR152_0.out 0 p153 q153
            cases e153
            have qi153 : (0 < (rd_L1 l0_1 x3_2).length) = True := eq_true (by omega)
            (try rw [show ((0 : Int)).toNat = 0 from rfl] at hx153_0)
            (try rw [Addr.add_zero'] at hx153_0)
            replace hx153_0 := (HB.out.cell (World.block_lt_of_cell? w _ hx153_0)).trans hx153_0
            replace p153 := eq_true p153
            replace q153 := eq_true q153
            have hcz22_0 : wr.cell? ⟨gb150, 0, none⟩ = some (.int .i64 a0_0) := (blk_cell BK150.out 0).trans rfl
            have hcz22_1 : wr.cell? ⟨gb150, 1, none⟩ = some (.slice (some ad152) l0_1.length c0_1) := (blk_cell BK150.out 1).trans rfl
            have hfz22_0 := blk_frozen BK150.out 0
            have hfz22_1 := blk_frozen BK150.out 1
            go_wp2_with (first | (go_at_call 49; (with_reducible refine (spec_l01In.calls (rd (rd_L1 l0_1 x3_2) 0) 0 (wrap64 (a0_0 - 1)) false _ A15.out).mono ?_); rintro e w' ⟨rfl, ⟨nd, rfl⟩⟩; (try first | exact ⟨rfl, _, World.drewN_drewN _ _ _⟩ | exact ⟨rfl, _, Eq.trans (World.drewN_drewN _ _ _) (congrArg (World.drewN _) (Nat.add_assoc _ _ _))⟩)))
            repeat (go_quiet (first | (go_at_call 49; (with_reducible refine (spec_l01In.calls (rd (rd_L1 l0_1 x3_2) 0) 0 (wrap64 (a0_0 - 1)) false _ A15.out).mono ?_); rintro e w' ⟨rfl, ⟨nd, rfl⟩⟩; (try first | exact ⟨rfl, _, World.drewN_drewN _ _ _⟩ | exact ⟨rfl, _, Eq.trans (World.drewN_drewN _ _ _) (congrArg (World.drewN _) (Nat.add_assoc _ _ _))⟩))); try go_wp2_with (first | (go_at_call 49; (with_reducible refine (spec_l01In.calls (rd (rd_L1 l0_1 x3_2) 0) 0 (wrap64 (a0_0 - 1)) false _ A15.out).mono ?_); rintro e w' ⟨rfl, ⟨nd, rfl⟩⟩; (try first | exact ⟨rfl, _, World.drewN_drewN _ _ _⟩ | exact ⟨rfl, _, Eq.trans (World.drewN_drewN _ _ _) (congrArg (World.drewN _) (Nat.add_assoc _ _ _))⟩))))
            go_meet
            case rel => exact ⟨_, (true), (by first | rfl | (simp; done) | (simp [*]; done)), H', ⟨by have := HJ1.out; have := HK2.out; first | omega | exact Nat.le_refl _⟩, ⟨by (with_reducible repeat (first | refine blk_drewN ?_ _ | refine blk_drew ?_ | refine blk_alloc ?_ _)); exact BK150.out⟩, ⟨by repeat (first | (with_reducible first | exact HB.out | apply below_alloc | apply pw_below_drewN | apply below_drew1 | refine below_set ?_ GE150.out) | exact HB.out)⟩⟩
          ·rw [if_neg c14] at H
           exact absurd H (by simp)
         ·rw [if_neg c13] at H
          have c13b0 : (((rd_L1 l0_1 x3_2).length : Int) == 2) = false := beq_eq_false_iff_ne.mpr c13
          have c13b1 : (((rd_L1 l0_1 x3_2).length : Int) != 2) = true := bne_iff_ne.mpr c13
          (first | rw [c13b0] | (simp only [i64_w, i32_w]; rw [c13b0]) | skip)
          have H' := Aside0.mk H
          clear H
          go_wp2
          repeat (go_quiet (fail); try go_wp2)
          go_meet
          case rel => exact ⟨_, (true), (by first | rfl | (simp; done) | (simp [*]; done)), H', ⟨by have := HJ1.out; have := HK2.out; first | omega | exact Nat.le_refl _⟩, ⟨by (with_reducible repeat (first | refine blk_drewN ?_ _ | refine blk_drew ?_ | refine blk_alloc ?_ _)); exact BK150.out⟩, ⟨by repeat (first | (with_reducible first | exact HB.out | apply below_alloc | apply pw_below_drewN | apply below_drew1 | refine below_set ?_ GE150.out) | exact HB.out)⟩⟩
        case rest =>
         clear HC11
         try clear c1
         try clear p1
         try clear q1
         try clear hx1
         try clear qi1
         try clear p2
         try clear c4
         try clear c5
         try clear p6
         try clear c8
         try clear c9
         try clear c9b0
         try clear c10
         try clear c10b0
         try clear c13
         try clear c13b0
         try clear c13b1
         try clear c14
         try clear c14b0
         try clear c14b1
         try clear c15
         try clear p15
         try clear q15
         try clear hx15
         try clear qi15
         try clear c16
         try clear c17
         try clear c17b0
         try clear c17b1
         try clear c19
         try clear hcz12_0
         try clear hcz12_1
         try clear hcz20_0
         try clear hcz20_1
         try clear hcz21_0
         try clear hcz21_1
         try clear hcz22_0
         try clear hcz22_1
         try clear hcz6_0
         try clear hcz6_1
         try clear hcz7_0
         try clear hcz7_1
         try clear hfz12_0
         try clear hfz12_1
         try clear hfz20_0
         try clear hfz20_1
         try clear hfz21_0
         try clear hfz21_1
         try clear hfz22_0
         try clear hfz22_1
         try clear hfz6_0
         try clear hfz6_1
         try clear hfz7_0
         try clear hfz7_1
         try clear hx152_0
         try clear hx153_0
         try clear hx155_0
         try clear hx157_0
         try clear hx158_0
         try clear p152
         try clear p153
         try clear p155
         try clear p157
         try clear p158
         try clear p2
         try clear q152
         try clear q153
         try clear q155
         try clear q157
         try clear q158
         obtain ⟨kq, x58_10, rfl, HA, HJ10, BK150, HB⟩ := hcut
         cases kq with
         | zero => exact absurd HA.out (by simp [spec_l10Is.j2])
         | succ kj10 =>
          have H := HA.out
          clear HA
          simp only [spec_l10Is.j2] at H
          by_cases c23 : x58_10 = true
          ·subst c23
           have H1 : (some false) = some r := by rw [if_pos rfl] at H; exact H
           clear H
           have H := H1
           clear H1
           obtain rfl := Option.some.inj H
           go_wp2
           repeat (go_quiet (fail); try go_wp2)
           go_ret
           exact ⟨by first | rfl | (simp [errW_none, errW_some] <;> rfl) | (simp [*, errW_none, errW_some] <;> rfl), by repeat (first | (with_reducible first | exact HB.out | apply below_alloc | apply pw_below_drewN | apply below_drew1 | refine below_set ?_ GE150.out) | exact HB.out)⟩
          ·replace c23 := Bool.eq_false_iff.mpr c23
           subst c23
           have H1 : (if x3_2 > 0 then (if 0 ≤ (wrap64 (x3_2 - 1)) then (if (wrap64 (x3_2 - 1)) < (l0_1.length : Int) then (if 0 < ((rd_L1 l0_1 (wrap64 (x3_2 - 1))).length : Int) then (if 0 < ((rd_L1 l0_1 x3_2).length : Int) then (if (rd (rd_L1 l0_1 (wrap64 (x3_2 - 1))) 0) > (rd (rd_L1 l0_1 x3_2) 0) then (some false) else (if (rd (rd_L1 l0_1 (wrap64 (x3_2 - 1))) 0) = (rd (rd_L1 l0_1 x3_2) 0) then (if 1 < ((rd_L1 l0_1 (wrap64 (x3_2 - 1))).length : Int) then (if 1 < ((rd_L1 l0_1 x3_2).length : Int) then (if (rd (rd_L1 l0_1 (wrap64 (x3_2 - 1))) 1) > (rd (rd_L1 l0_1 x3_2) 1) then (some false) else (spec_l10Is.l0 kj10 (wrap64 (x3_2 + 1)) a0_0 l0_1)) else (none)) else (none)) else (spec_l10Is.l0 kj10 (wrap64 (x3_2 + 1)) a0_0 l0_1))) else (none)) else (none)) else (none)) else (none)) else (spec_l10Is.l0 kj10 (wrap64 (x3_2 + 1)) a0_0 l0_1)) = some r := by rw [if_neg (show ¬ (false = true) by decide)] at H; exact H
           clear H
           have H := H1
           clear H1
           by_cases c24 : x3_2 > 0
           ·rw [if_pos c24] at H
            have c24b0 : decide (0 < x3_2) = true := decide_eq_true c24
            clear c24
            obtain ⟨ji25, hji25⟩ : ∃ j_ : Int, (wrap64 (x3_2 - 1)) = j_ := ⟨_, rfl⟩
            replace H : (if 0 ≤ (ji25) then (if (ji25) < (l0_1.length : Int) then (if 0 < ((rd_L1 l0_1 (ji25)).length : Int) then (if 0 < ((rd_L1 l0_1 x3_2).length : Int) then (if (rd (rd_L1 l0_1 (ji25)) 0) > (rd (rd_L1 l0_1 x3_2) 0) then (some false) else (if (rd (rd_L1 l0_1 (ji25)) 0) = (rd (rd_L1 l0_1 x3_2) 0) then (if 1 < ((rd_L1 l0_1 (ji25)).length : Int) then (if 1 < ((rd_L1 l0_1 x3_2).length : Int) then (if (rd (rd_L1 l0_1 (ji25)) 1) > (rd (rd_L1 l0_1 x3_2) 1) then (some false) else (spec_l10Is.l0 kj10 (wrap64 (x3_2 + 1)) a0_0 l0_1)) else (none)) else (none)) else (spec_l10Is.l0 kj10 (wrap64 (x3_2 + 1)) a0_0 l0_1))) else (none)) else (none)) else (none)) else (none)) = some r := by first | (rw [hji25] at H; exact H) | (simp only [hji25] at H ⊢; exact H)
            have hji25w : (IntKind.i64.wrap (x3_2 - 1)) = ji25 := (i64_w _).trans hji25
            by_cases c26 : 0 ≤ (ji25)
            ·rw [if_pos c26] at H
             have c26b0 : decide (0 ≤ (ji25)) = true := decide_eq_true c26
             clear c26
             by_cases c27 : (ji25) < (l0_1.length : Int)
             ·rw [if_pos c27] at H
              have c27b0 : decide ((ji25) < (l0_1.length : Int)) = true := decide_eq_true c27
              clear c27
              by_cases c28 : 0 < ((rd_L1 l0_1 (ji25)).length : Int)
              ·rw [if_pos c28] at H
               have c28b0 : decide (0 < ((rd_L1 l0_1 (ji25)).length : Int)) = true := decide_eq_true c28
               have c28b1 : decide (0 < (rd_L1 l0_1 (ji25)).length) = true := decide_eq_true (by omega)
               clear c28
               by_cases c29 : 0 < ((rd_L1 l0_1 x3_2).length : Int)
               ·rw [if_pos c29] at H
                have c29b0 : decide (0 < ((rd_L1 l0_1 x3_2).length : Int)) = true := decide_eq_true c29
                have c29b1 : decide (0 < (rd_L1 l0_1 x3_2).length) = true := decide_eq_true (by omega)
                clear c29
                by_cases c30 : (rd (rd_L1 l0_1 (ji25)) 0) > (rd (rd_L1 l0_1 x3_2) 0)
                ·rw [if_pos c30] at H
                 have c30b0 : decide ((rd (rd_L1 l0_1 x3_2) 0) < (rd (rd_L1 l0_1 (ji25)) 0)) = true := decide_eq_true c30
                 clear c30
                 obtain rfl := Option.some.inj H
                 have hcz31_0 : wc.cell? ⟨gb150, 0, none⟩ = some (.int .i64 a0_0) := (blk_cell BK150.out 0).trans rfl
                 have hcz31_1 : wc.cell? ⟨gb150, 1, none⟩ = some (.slice (some ad152) l0_1.length c0_1) := (blk_cell BK150.out 1).trans rfl
                 have hfz31_0 := blk_frozen BK150.out 0
                 have hfz31_1 := blk_frozen BK150.out 1
                 have p159 : 0 ≤ ((ji25) : Int) := of_decide_eq_true (by first | (with_reducible assumption) | assumption)
                 have q159 : (ji25) < (l0_1.length : Int) := of_decide_eq_true (by first | (with_reducible assumption) | assumption)
                 obtain ⟨ad159, A159_0, c159_0, e159, hx159_0, hl159_0, hi159_0⟩ := at_L1 HR0_1.out (ji25) p159 q159
                 obtain rfl : ad152 = ad159 := (by injection e159)
                 replace hx159_0 := (HB.out.cell (World.block_lt_of_cell? w _ hx159_0)).trans hx159_0
                 have HR159_0 := Aside0.mk hi159_0
                 have HC159_0 := Aside0.mk hl159_0
                 clear hi159_0 hl159_0
                 replace p159 := eq_true p159
                 replace q159 := eq_true q159
                 have p160 : 0 ≤ (0 : Int) := (by omega)
                 have q160 : 0 < ((rd_L1 l0_1 (ji25)).length : Int) := of_decide_eq_true (by first | (with_reducible assumption) | assumption)
                 obtain ⟨ad160, e160, hx160_0⟩ := Kd.at_int HR159_0.out 0 p160 q160
                 cases e160
                 have qi160 : (0 < (rd_L1 l0_1 (ji25)).length) = True := eq_true (by omega)
                 (try rw [show ((0 : Int)).toNat = 0 from rfl] at hx160_0)
                 (try rw [Addr.add_zero'] at hx160_0)
                 replace hx160_0 := (HB.out.cell (World.block_lt_of_cell? w _ hx160_0)).trans hx160_0
                 replace p160 := eq_true p160
                 replace q160 := eq_true q160
                 have p161 : 0 ≤ (0 : Int) := (by omega)
                 have q161 : 0 < ((rd_L1 l0_1 x3_2).length : Int) := of_decide_eq_true (by first | (with_reducible assumption) | assumption)
                 obtain ⟨ad161, e161, hx161_0⟩ := Kd.at_int HR152_0.out 0 p161 q161
                 cases e161
                 have qi161 : (0 < (rd_L1 l0_1 x3_2).length) = True := eq_true (by omega)
                 (try rw [show ((0 : Int)).toNat = 0 from rfl] at hx161_0)
                 (try rw [Addr.add_zero'] at hx161_0)
                 replace hx161_0 := (HB.out.cell (World.block_lt_of_cell? w _ hx161_0)).trans hx161_0
                 replace p161 := eq_true p161
                 replace q161 := eq_true q161
                 go_wp2
                 repeat (go_quiet (fail); try go_wp2)
                 go_ret
                 exact ⟨by first | rfl | (simp [errW_none, errW_some] <;> rfl) | (simp only [← hji25]; first | rfl | (simp [errW_none, errW_some] <;> rfl)) | (simp [*, errW_none, errW_some] <;> rfl), by repeat (first | (with_reducible first | exact HB.out | apply below_alloc | apply pw_below_drewN | apply below_drew1 | refine below_set ?_ GE150.out) | exact HB.out)⟩
                ·rw [if_neg c30] at H
                 have c30b0 : decide ((rd (rd_L1 l0_1 x3_2) 0) < (rd (rd_L1 l0_1 (ji25)) 0)) = false := decide_eq_false c30
                 clear c30
                 by_cases c32 : (rd (rd_L1 l0_1 (ji25)) 0) = (rd (rd_L1 l0_1 x3_2) 0)
                 ·rw [if_pos c32] at H
                  have c32b0 : ((rd (rd_L1 l0_1 (ji25)) 0) == (rd (rd_L1 l0_1 x3_2) 0)) = true := beq_iff_eq.mpr c32
                  have c32b1 : ((rd (rd_L1 l0_1 (ji25)) 0) != (rd (rd_L1 l0_1 x3_2) 0)) = false := bne_eq_false_iff_eq.mpr c32
                  clear c32
                  by_cases c33 : 1 < ((rd_L1 l0_1 (ji25)).length : Int)
                  ·rw [if_pos c33] at H
                   have c33b0 : decide (1 < ((rd_L1 l0_1 (ji25)).length : Int)) = true := decide_eq_true c33
                   have c33b1 : decide (1 < (rd_L1 l0_1 (ji25)).length) = true := decide_eq_true (by omega)
                   clear c33
                   by_cases c34 : 1 < ((rd_L1 l0_1 x3_2).length : Int)
                   ·rw [if_pos c34] at H
                    have c34b0 : decide (1 < ((rd_L1 l0_1 x3_2).length : Int)) = true := decide_eq_true c34
                    have c34b1 : decide (1 < (rd_L1 l0_1 x3_2).length) = true := decide_eq_true (by omega)
                    clear c34
                    by_cases c35 : (rd (rd_L1 l0_1 (ji25)) 1) > (rd (rd_L1 l0_1 x3_2) 1)
                    ·rw [if_pos c35] at H
                     have c35b0 : decide ((rd (rd_L1 l0_1 x3_2) 1) < (rd (rd_L1 l0_1 (ji25)) 1)) = true := decide_eq_true c35
                     clear c35
                     obtain rfl := Option.some.inj H
                     have hcz36_0 : wc.cell? ⟨gb150, 0, none⟩ = some (.int .i64 a0_0) := (blk_cell BK150.out 0).trans rfl
                     have hcz36_1 : wc.cell? ⟨gb150, 1, none⟩ = some (.slice (some ad152) l0_1.length c0_1) := (blk_cell BK150.out 1).trans rfl
                     have hfz36_0 := blk_frozen BK150.out 0
                     have hfz36_1 := blk_frozen BK150.out 1
                     have p159 : 0 ≤ ((ji25) : Int) := of_decide_eq_true (by first | (with_reducible assumption) | assumption)
                     have q159 : (ji25) < (l0_1.length : Int) := of_decide_eq_true (by first | (with_reducible assumption) | assumption)
                     obtain ⟨ad159, A159_0, c159_0, e159, hx159_0, hl159_0, hi159_0⟩ := at_L1 HR0_1.out (ji25) p159 q159
                     obtain rfl : ad152 = ad159 := (by injection e159)
                     replace hx159_0 := (HB.out.cell (World.block_lt_of_cell? w _ hx159_0)).trans hx159_0
                     have HR159_0 := Aside0.mk hi159_0
                     have HC159_0 := Aside0.mk hl159_0
                     clear hi159_0 hl159_0
                     replace p159 := eq_true p159
                     replace q159 := eq_true q159
                     have p160 : 0 ≤ (0 : Int) := (by omega)
                     have q160 : 0 < ((rd_L1 l0_1 (ji25)).length : Int) := of_decide_eq_true (by first | (with_reducible assumption) | assumption)
                     obtain ⟨ad160, e160, hx160_0⟩ := Kd.at_int HR159_0.out 0 p160 q160
                     cases e160
                     have qi160 : (0 < (rd_L1 l0_1 (ji25)).length) = True := eq_true (by omega)
                     (try rw [show ((0 : Int)).toNat = 0 from rfl] at hx160_0)
                     (try rw [Addr.add_zero'] at hx160_0)
                     replace hx160_0 := (HB.out.cell (World.block_lt_of_cell? w _ hx160_0)).trans hx160_0
                     replace p160 := eq_true p160
                     replace q160 := eq_true q160
                     have p161 : 0 ≤ (0 : Int) := (by omega)
                     have q161 : 0 < ((rd_L1 l0_1 x3_2).length : Int) := of_decide_eq_true (by first | (with_reducible assumption) | assumption)
                     obtain ⟨ad161, e161, hx161_0⟩ := Kd.at_int HR152_0.out 0 p161 q161
                     cases e161
                     have qi161 : (0 < (rd_L1 l0_1 x3_2).length) = True := eq_true (by omega)
                     (try rw [show ((0 : Int)).toNat = 0 from rfl] at hx161_0)
                     (try rw [Addr.add_zero'] at hx161_0)
                     replace hx161_0 := (HB.out.cell (World.block_lt_of_cell? w _ hx161_0)).trans hx161_0
                     replace p161 := eq_true p161
                     replace q161 := eq_true q161
                     have p162 : 0 ≤ ((ji25) : Int) := of_decide_eq_true (by first | (with_reducible assumption) | assumption)
                     have q162 : (ji25) < (l0_1.length : Int) := of_decide_eq_true (by first | (with_reducible assumption) | assumption)
                     obtain ⟨ad162, A162_0, c162_0, e162, hx162_0, hl162_0, hi162_0⟩ := at_L1 HR0_1.out (ji25) p162 q162
                     obtain rfl : ad152 = ad162 := (by injection e162)
                     replace hx162_0 := (HB.out.cell (World.block_lt_of_cell? w _ hx162_0)).trans hx162_0
                     have HR162_0 := Aside0.mk hi162_0
                     have HC162_0 := Aside0.mk hl162_0
                     clear hi162_0 hl162_0
                     replace p162 := eq_true p162
                     replace q162 := eq_true q162
                     have ea_ := Option.some.inj (hx159_0.symm.trans hx162_0)
                     injection ea_ with ea_ en_ ec_
                     subst ea_
                     subst ec_
                     clear en_
                     have p163 : 0 ≤ (0 : Int) := (by omega)
                     have q163 : 0 < ((rd_L1 l0_1 (ji25)).length : Int) := of_decide_eq_true (by first | (with_reducible assumption) | assumption)
                     obtain ⟨ad163, e163, hx163_0⟩ := Kd.at_int HR162_0.out 0 p163 q163
                     cases e163
                     have qi163 : (0 < (rd_L1 l0_1 (ji25)).length) = True := eq_true (by omega)
                     (try rw [show ((0 : Int)).toNat = 0 from rfl] at hx163_0)
                     (try rw [Addr.add_zero'] at hx163_0)
                     replace hx163_0 := (HB.out.cell (World.block_lt_of_cell? w _ hx163_0)).trans hx163_0
                     replace p163 := eq_true p163
                     replace q163 := eq_true q163
                     have p164 : 0 ≤ (0 : Int) := (by omega)
                     have q164 : 0 < ((rd_L1 l0_1 x3_2).length : Int) := of_decide_eq_true (by first | (with_reducible assumption) | assumption)
                     obtain ⟨ad164, e164, hx164_0⟩ := Kd.at_int HR152_0.out 0 p164 q164
                     obtain rfl : ad161 = ad164 := (by injection e164)
                     have qi164 : (0 < (rd_L1 l0_1 x3_2).length) = True := eq_true (by omega)
                     (try rw [show ((0 : Int)).toNat = 0 from rfl] at hx164_0)
                     (try rw [Addr.add_zero'] at hx164_0)
                     replace hx164_0 := (HB.out.cell (World.block_lt_of_cell? w _ hx164_0)).trans hx164_0
                     replace p164 := eq_true p164
                     replace q164 := eq_true q164
                     have p165 : 0 ≤ ((ji25) : Int) := of_decide_eq_true (by first | (with_reducible assumption) | assumption)
                     have q165 : (ji25) < (l0_1.length : Int) := of_decide_eq_true (by first | (with_reducible assumption) | assumption)
                     obtain ⟨ad165, A165_0, c165_0, e165, hx165_0, hl165_0, hi165_0⟩ := at_L1 HR0_1.out (ji25) p165 q165
                     obtain rfl : ad152 = ad165 := (by injection e165)
                     replace hx165_0 := (HB.out.cell (World.block_lt_of_cell? w _ hx165_0)).trans hx165_0
                     have HR165_0 := Aside0.mk hi165_0
                     have HC165_0 := Aside0.mk hl165_0
                     clear hi165_0 hl165_0
                     replace p165 := eq_true p165
                     replace q165 := eq_true q165
                     have ea_ := Option.some.inj (hx159_0.symm.trans hx165_0)
                     injection ea_ with ea_ en_ ec_
                     subst ea_
                     subst ec_
                     clear en_
                     have p166 : 0 ≤ (1 : Int) := (by omega)
                     have q166 : 1 < ((rd_L1 l0_1 (ji25)).length : Int) := of_decide_eq_true (by first | (with_reducible assumption) | assumption)
                     obtain ⟨ad166, e166, hx166_0⟩ := Kd.at_int HR165_0.out 1 p166 q166
                     cases e166
                     (try simp only [show (1 : Int).toNat = 1 from rfl, Nat.reduceMul, Nat.reduceEqDiff, Go.Addr.add, ↓reduceIte] at hx166_0)
                     have qi166 : (1 < (rd_L1 l0_1 (ji25)).length) = True := eq_true (by omega)
                     (try rw [show ((1 : Int)).toNat = 1 from rfl] at hx166_0)
                     replace hx166_0 := (HB.out.cell (World.block_lt_of_cell? w _ hx166_0)).trans hx166_0
                     replace p166 := eq_true p166
                     replace q166 := eq_true q166
                     have p167 : 0 ≤ (1 : Int) := (by omega)
                     have q167 : 1 < ((rd_L1 l0_1 x3_2).length : Int) := of_decide_eq_true (by first | (with_reducible assumption) | assumption)
                     obtain ⟨ad167, e167, hx167_0⟩ := Kd.at_int HR152_0.out 1 p167 q167
                     obtain rfl : ad161 = ad167 := (by injection e167)
                     (try simp only [show (1 : Int).toNat = 1 from rfl, Nat.reduceMul, Nat.reduceEqDiff, Go.Addr.add, ↓reduceIte] at hx167_0)
                     have qi167 : (1 < (rd_L1 l0_1 x3_2).length) = True := eq_true (by omega)
                     (try rw [show ((1 : Int)).toNat = 1 from rfl] at hx167_0)
                     replace hx167_0 := (HB.out.cell (World.block_lt_of_cell? w _ hx167_0)).trans hx167_0
                     replace p167 := eq_true p167
                     replace q167 := eq_true q167
                     go_wp2
                     repeat (go_quiet (fail); try go_wp2)
                     go_ret
                     exact ⟨by first | rfl | (simp [errW_none, errW_some] <;> rfl) | (simp only [← hji25]; first | rfl | (simp [errW_none, errW_some] <;> rfl)) | (simp [*, errW_none, errW_some] <;> rfl), by repeat (first | (with_reducible first | exact HB.out | apply below_alloc | apply pw_below_drewN | apply below_drew1 | refine below_set ?_ GE150.out) | exact HB.out)⟩
                    ·rw [if_neg c35] at H
                     have c35b0 : decide ((rd (rd_L1 l0_1 x3_2) 1) < (rd (rd_L1 l0_1 (ji25)) 1)) = false := decide_eq_false c35
                     clear c35
                     have H' := Aside0.mk H
                     clear H
                     have hcz37_0 : wc.cell? ⟨gb150, 0, none⟩ = some (.int .i64 a0_0) := (blk_cell BK150.out 0).trans rfl
                     have hcz37_1 : wc.cell? ⟨gb150, 1, none⟩ = some (.slice (some ad152) l0_1.length c0_1) := (blk_cell BK150.out 1).trans rfl
                     have hfz37_0 := blk_frozen BK150.out 0
                     have hfz37_1 := blk_frozen BK150.out 1
                     have p159 : 0 ≤ ((ji25) : Int) := of_decide_eq_true (by first | (with_reducible assumption) | assumption)
                     have q159 : (ji25) < (l0_1.length : Int) := of_decide_eq_true (by first | (with_reducible assumption) | assumption)
                     obtain ⟨ad159, A159_0, c159_0, e159, hx159_0, hl159_0, hi159_0⟩ := at_L1 HR0_1.out (ji25) p159 q159
                     obtain rfl : ad152 = ad159 := (by injection e159)
                     replace hx159_0 := (HB.out.cell (World.block_lt_of_cell? w _ hx159_0)).trans hx159_0
                     have HR159_0 := Aside0.mk hi159_0
                     have HC159_0 := Aside0.mk hl159_0
                     clear hi159_0 hl159_0
                     replace p159 := eq_true p159
                     replace q159 := eq_true q159
                     have p160 : 0 ≤ (0 : Int) := (by omega)
                     have q160 : 0 < ((rd_L1 l0_1 (ji25)).length : Int) := of_decide_eq_true (by first | (with_reducible assumption) | assumption)
                     obtain ⟨ad160, e160, hx160_0⟩ := Kd.at_int HR159_0.out 0 p160 q160
                     cases e160
                     have qi160 : (0 < (rd_L1 l0_1 (ji25)).length) = True := eq_true (by omega)
                     (try rw [show ((0 : Int)).toNat = 0 from rfl] at hx160_0)
                     (try rw [Addr.add_zero'] at hx160_0)
                     replace hx160_0 := (HB.out.cell (World.block_lt_of_cell? w _ hx160_0)).trans hx160_0
                     replace p160 := eq_true p160
                     replace q160 := eq_true q160
                     have p161 : 0 ≤ (0 : Int) := (by omega)
                     have q161 : 0 < ((rd_L1 l0_1 x3_2).length : Int) := of_decide_eq_true (by first | (with_reducible assumption) | assumption)
                     obtain ⟨ad161, e161, hx161_0⟩ := Kd.at_int HR152_0.out 0 p161 q161
                     cases e161
                     have qi161 : (0 < (rd_L1 l0_1 x3_2).length) = True := eq_true (by omega)
                     (try rw [show ((0 : Int)).toNat = 0 from rfl] at hx161_0)
                     (try rw [Addr.add_zero'] at hx161_0)
                     replace hx161_0 := (HB.out.cell (World.block_lt_of_cell? w _ hx161_0)).trans hx161_0
                     replace p161 := eq_true p161
                     replace q161 := eq_true q161
                     have p162 : 0 ≤ ((ji25) : Int) := of_decide_eq_true (by first | (with_reducible assumption) | assumption)
                     have q162 : (ji25) < (l0_1.length : Int) := of_decide_eq_true (by first | (with_reducible assumption) | assumption)
                     obtain ⟨ad162, A162_0, c162_0, e162, hx162_0, hl162_0, hi162_0⟩ := at_L1 HR0_1.out (ji25) p162 q162
                     obtain rfl : ad152 = ad162 := (by injection e162)
                     replace hx162_0 := (HB.out.cell (World.block_lt_of_cell? w _ hx162_0)).trans hx162_0
                     have HR162_0 := Aside0.mk hi162_0
                     have HC162_0 := Aside0.mk hl162_0
                     clear hi162_0 hl162_0
                     replace p162 := eq_true p162
                     replace q162 := eq_true q162
                     have ea_ := Option.some.inj (hx159_0.symm.trans hx162_0)
                     injection ea_ with ea_ en_ ec_
                     subst ea_
                     subst ec_
                     clear en_
                     have p163 : 0 ≤ (0 : Int) := (by omega)
                     have q163 : 0 < ((rd_L1 l0_1 (ji25)).length : Int) := of_decide_eq_true (by first | (with_reducible assumption) | assumption)
                     obtain ⟨ad163, e163, hx163_0⟩ := Kd.at_int HR162_0.out 0 p163 q163
                     cases e163
                     have qi163 : (0 < (rd_L1 l0_1 (ji25)).length) = True := eq_true (by omega)
                     (try rw [show ((0 : Int)).toNat = 0 from rfl] at hx163_0)
                     (try rw [Addr.add_zero'] at hx163_0)
                     replace hx163_0 := (HB.out.cell (World.block_lt_of_cell? w _ hx163_0)).trans hx163_0
                     replace p163 := eq_true p163
                     replace q163 := eq_true q163
                     have p164 : 0 ≤ (0 : Int) := (by omega)
                     have q164 : 0 < ((rd_L1 l0_1 x3_2).length : Int) := of_decide_eq_true (by first | (with_reducible assumption) | assumption)
                     obtain ⟨ad164, e164, hx164_0⟩ := Kd.at_int HR152_0.out 0 p164 q164
                     obtain rfl : ad161 = ad164 := (by injection e164)
                     have qi164 : (0 < (rd_L1 l0_1 x3_2).length) = True := eq_true (by omega)
                     (try rw [show ((0 : Int)).toNat = 0 from rfl] at hx164_0)
                     (try rw [Addr.add_zero'] at hx164_0)
                     replace hx164_0 := (HB.out.cell (World.block_lt_of_cell? w _ hx164_0)).trans hx164_0
                     replace p164 := eq_true p164
                     replace q164 := eq_true q164
                     have p165 : 0 ≤ ((ji25) : Int) := of_decide_eq_true (by first | (with_reducible assumption) | assumption)
                     have q165 : (ji25) < (l0_1.length : Int) := of_decide_eq_true (by first | (with_reducible assumption) | assumption)
                     obtain ⟨ad165, A165_0, c165_0, e165, hx165_0, hl165_0, hi165_0⟩ := at_L1 HR0_1.out (ji25) p165 q165
                     obtain rfl : ad152 = ad165 := (by injection e165)
                     replace hx165_0 := (HB.out.cell (World.block_lt_of_cell? w _ hx165_0)).trans hx165_0
                     have HR165_0 := Aside0.mk hi165_0
                     have HC165_0 := Aside0.mk hl165_0
                     clear hi165_0 hl165_0
                     replace p165 := eq_true p165
                     replace q165 := eq_true q165
                     have ea_ := Option.some.inj (hx159_0.symm.trans hx165_0)
                     injection ea_ with ea_ en_ ec_
                     subst ea_
                     subst ec_
                     clear en_
                     have p166 : 0 ≤ (1 : Int) := (by omega)
                     have q166 : 1 < ((rd_L1 l0_1 (ji25)).length : Int) := of_decide_eq_true (by first | (with_reducible assumption) | assumption)
                     obtain ⟨ad166, e166, hx166_0⟩ := Kd.at_int HR165_0.out 1 p166 q166
                     cases e166
                     (try simp only [show (1 : Int).toNat = 1 from rfl, Nat.reduceMul, Nat.reduceEqDiff, Go.Addr.add, ↓reduceIte] at hx166_0)
                     have qi166 : (1 < (rd_L1 l0_1 (ji25)).length) = True := eq_true (by omega)
                     (try rw [show ((1 : Int)).toNat = 1 from rfl] at hx166_0)
                     replace hx166_0 := (HB.out.cell (World.block_lt_of_cell? w _ hx166_0)).trans hx166_0
                     replace p166 := eq_true p166
                     replace q166 := eq_true q166
                     have p167 : 0 ≤ (1 : Int) := (by omega)
                     have q167 : 1 < ((rd_L1 l0_1 x3_2).length : Int) := of_decide_eq_true (by first | (with_reducible assumption) | assumption)
                     obtain ⟨ad167, e167, hx167_0⟩ := Kd.at_int HR152_0.out 1 p167 q167
                     obtain rfl : ad161 = ad167 := (by injection e167)
                     (try simp only [show (1 : Int).toNat = 1 from rfl, Nat.reduceMul, Nat.reduceEqDiff, Go.Addr.add, ↓reduceIte] at hx167_0)
                     have qi167 : (1 < (rd_L1 l0_1 x3_2).length) = True := eq_true (by omega)
                     (try rw [show ((1 : Int)).toNat = 1 from rfl] at hx167_0)
                     replace hx167_0 := (HB.out.cell (World.block_lt_of_cell? w _ hx167_0)).trans hx167_0
                     replace p167 := eq_true p167
                     replace q167 := eq_true q167
                     go_wp2
                     repeat (go_quiet (fail); try go_wp2)
                     go_roundg kj10
                     case measure => have := HJ1.out; have := HK2.out; have := HJ10.out; omega
                     case rel => exact ⟨(wrap64 (x3_2 + 1)), (by first | rfl | (simp; done) | (simp [*]; done)), H', ⟨by have := HJ1.out; have := HK2.out; have := HJ10.out; omega⟩, ⟨by (with_reducible repeat (first | refine blk_drewN ?_ _ | refine blk_drew ?_ | refine blk_alloc ?_ _)); exact BK150.out⟩, ⟨by repeat (first | (with_reducible first | exact HB.out | apply below_alloc | apply pw_below_drewN | apply below_drew1 | refine below_set ?_ GE150.out) | exact HB.out)⟩⟩
                   ·rw [if_neg c34] at H
                    exact absurd H (by simp)
                  ·rw [if_neg c33] at H
                   exact absurd H (by simp)
                 ·rw [if_neg c32] at H
                  have c32b0 : ((rd (rd_L1 l0_1 (ji25)) 0) == (rd (rd_L1 l0_1 x3_2) 0)) = false := beq_eq_false_iff_ne.mpr c32
                  have c32b1 : ((rd (rd_L1 l0_1 (ji25)) 0) != (rd (rd_L1 l0_1 x3_2) 0)) = true := bne_iff_ne.mpr c32
                  have H' := Aside0.mk H
                  clear H
                  have hcz38_0 : wc.cell? ⟨gb150, 0, none⟩ = some (.int .i64 a0_0) := (blk_cell BK150.out 0).trans rfl
                  have hcz38_1 : wc.cell? ⟨gb150, 1, none⟩ = some (.slice (some ad152) l0_1.length c0_1) := (blk_cell BK150.out 1).trans rfl
                  have hfz38_0 := blk_frozen BK150.out 0
                  have hfz38_1 := blk_frozen BK150.out 1
                  have p159 : 0 ≤ ((ji25) : Int) := of_decide_eq_true (by first | (with_reducible assumption) | assumption)
                  have q159 : (ji25) < (l0_1.length : Int) := of_decide_eq_true (by first | (with_reducible assumption) | assumption)
                  obtain ⟨ad159, A159_0, c159_0, e159, hx159_0, hl159_0, hi159_0⟩ := at_L1 HR0_1.out (ji25) p159 q159
                  obtain rfl : ad152 = ad159 := (by injection e159)
                  replace hx159_0 := (HB.out.cell (World.block_lt_of_cell? w _ hx159_0)).trans hx159_0
                  have HR159_0 := Aside0.mk hi159_0
                  have HC159_0 := Aside0.mk hl159_0
                  clear hi159_0 hl159_0
                  replace p159 := eq_true p159
                  replace q159 := eq_true q159
                  have p160 : 0 ≤ (0 : Int) := (by omega)
                  have q160 : 0 < ((rd_L1 l0_1 (ji25)).length : Int) := of_decide_eq_true (by first | (with_reducible assumption) | assumption)
                  obtain ⟨ad160, e160, hx160_0⟩ := Kd.at_int HR159_0.out 0 p160 q160
                  cases e160
                  have qi160 : (0 < (rd_L1 l0_1 (ji25)).length) = True := eq_true (by omega)
                  (try rw [show ((0 : Int)).toNat = 0 from rfl] at hx160_0)
                  (try rw [Addr.add_zero'] at hx160_0)
                  replace hx160_0 := (HB.out.cell (World.block_lt_of_cell? w _ hx160_0)).trans hx160_0
                  replace p160 := eq_true p160
                  replace q160 := eq_true q160
                  have p161 : 0 ≤ (0 : Int) := (by omega)
                  have q161 : 0 < ((rd_L1 l0_1 x3_2).length : Int) := of_decide_eq_true (by first | (with_reducible assumption) | assumption)
                  obtain ⟨ad161, e161, hx161_0⟩ := Kd.at_int HR152_0.out 0 p161 q161
                  cases e161
                  have qi161 : (0 < (rd_L1 l0_1 x3_2).length) = True := eq_true (by omega)
                  (try rw [show ((0 : Int)).toNat = 0 from rfl] at hx161_0)
                  (try rw [Addr.add_zero'] at hx161_0)
                  replace hx161_0 := (HB.out.cell (World.block_lt_of_cell? w _ hx161_0)).trans hx161_0
                  replace p161 := eq_true p161
                  replace q161 := eq_true q161
                  have p162 : 0 ≤ ((ji25) : Int) := of_decide_eq_true (by first | (with_reducible assumption) | assumption)
                  have q162 : (ji25) < (l0_1.length : Int) := of_decide_eq_true (by first | (with_reducible assumption) | assumption)
                  obtain ⟨ad162, A162_0, c162_0, e162, hx162_0, hl162_0, hi162_0⟩ := at_L1 HR0_1.out (ji25) p162 q162
                  obtain rfl : ad152 = ad162 := (by injection e162)
                  replace hx162_0 := (HB.out.cell (World.block_lt_of_cell? w _ hx162_0)).trans hx162_0
                  have HR162_0 := Aside0.mk hi162_0
                  have HC162_0 := Aside0.mk hl162_0
                  clear hi162_0 hl162_0
                  replace p162 := eq_true p162
                  replace q162 := eq_true q162
                  have ea_ := Option.some.inj (hx159_0.symm.trans hx162_0)
                  injection ea_ with ea_ en_ ec_
                  subst ea_
                  subst ec_
                  clear en_
                  have p163 : 0 ≤ (0 : Int) := (by omega)
                  have q163 : 0 < ((rd_L1 l0_1 (ji25)).length : Int) := of_decide_eq_true (by first | (with_reducible assumption) | assumption)
                  obtain ⟨ad163, e163, hx163_0⟩ := Kd.at_int HR162_0.out 0 p163 q163
                  cases e163
                  have qi163 : (0 < (rd_L1 l0_1 (ji25)).length) = True := eq_true (by omega)
                  (try rw [show ((0 : Int)).toNat = 0 from rfl] at hx163_0)
                  (try rw [Addr.add_zero'] at hx163_0)
                  replace hx163_0 := (HB.out.cell (World.block_lt_of_cell? w _ hx163_0)).trans hx163_0
                  replace p163 := eq_true p163
                  replace q163 := eq_true q163
                  have p164 : 0 ≤ (0 : Int) := (by omega)
                  have q164 : 0 < ((rd_L1 l0_1 x3_2).length : Int) := of_decide_eq_true (by first | (with_reducible assumption) | assumption)
                  obtain ⟨ad164, e164, hx164_0⟩ := Kd.at_int HR152_0.out 0 p164 q164
                  obtain rfl : ad161 = ad164 := (by injection e164)
                  have qi164 : (0 < (rd_L1 l0_1 x3_2).length) = True := eq_true (by omega)
                  (try rw [show ((0 : Int)).toNat = 0 from rfl] at hx164_0)
                  (try rw [Addr.add_zero'] at hx164_0)
                  replace hx164_0 := (HB.out.cell (World.block_lt_of_cell? w _ hx164_0)).trans hx164_0
                  replace p164 := eq_true p164
                  replace q164 := eq_true q164
                  go_wp2
                  repeat (go_quiet (fail); try go_wp2)
                  go_roundg kj10
                  case measure => have := HJ1.out; have := HK2.out; have := HJ10.out; omega
                  case rel => exact ⟨(wrap64 (x3_2 + 1)), (by first | rfl | (simp; done) | (simp [*]; done)), H', ⟨by have := HJ1.out; have := HK2.out; have := HJ10.out; omega⟩, ⟨by (with_reducible repeat (first | refine blk_drewN ?_ _ | refine blk_drew ?_ | refine blk_alloc ?_ _)); exact BK150.out⟩, ⟨by repeat (first | (with_reducible first | exact HB.out | apply below_alloc | apply pw_below_drewN | apply below_drew1 | refine below_set ?_ GE150.out) | exact HB.out)⟩⟩
               ·rw [if_neg c29] at H
                exact absurd H (by simp)
              ·rw [if_neg c28] at H
               exact absurd H (by simp)
             ·rw [if_neg c27] at H
              exact absurd H (by simp)
            ·rw [if_neg c26] at H
             exact absurd H (by simp)
           ·rw [if_neg c24] at H
            have c24b0 : decide (0 < x3_2) = false := decide_eq_false c24
            clear c24
            have H' := Aside0.mk H
            clear H
            go_wp2
            repeat (go_quiet (fail); try go_wp2)
            go_roundg kj10
            case measure => have := HJ1.out; have := HK2.out; have := HJ10.out; omega
            case rel => exact ⟨(wrap64 (x3_2 + 1)), (by first | rfl | (simp; done) | (simp [*]; done)), H', ⟨by have := HJ1.out; have := HK2.out; have := HJ10.out; omega⟩, ⟨by (with_reducible repeat (first | refine blk_drewN ?_ _ | refine blk_drew ?_ | refine blk_alloc ?_ _)); exact BK150.out⟩, ⟨by repeat (first | (with_reducible first | exact HB.out | apply below_alloc | apply pw_below_drewN | apply below_drew1 | refine below_set ?_ GE150.out) | exact HB.out)⟩⟩
       ·rw [if_neg c10] at H
        exact absurd H (by simp)
      ·rw [if_neg c9] at H
       have c9b0 : decide (x3_2 < (l0_1.length : Int)) = false := decide_eq_false c9
       clear c9
       obtain rfl := Option.some.inj H
       have hcz39_0 : wr.cell? ⟨gb150, 0, none⟩ = some (.int .i64 a0_0) := (blk_cell BK150.out 0).trans rfl
       have hcz39_1 : wr.cell? ⟨gb150, 1, none⟩ = some (.slice A0_1 l0_1.length c0_1) := (blk_cell BK150.out 1).trans rfl
       have hfz39_0 := blk_frozen BK150.out 0
       have hfz39_1 := blk_frozen BK150.out 1
       go_wp2
       repeat (go_quiet (fail); try go_wp2)
       go_ret
       exact ⟨by first | rfl | (simp [errW_none, errW_some] <;> rfl) | (simp [*, errW_none, errW_some] <;> rfl), by repeat (first | (with_reducible first | exact HB.out | apply below_alloc | apply pw_below_drewN | apply below_drew1 | refine below_set ?_ GE150.out) | exact HB.out)⟩
/-! ### spec_l10Reached: function 68 -/
mutual
def spec_l10Reached.l0 : Nat → Int → Int → Bool → Int → List (List Int) → Option (Int)
 | 0, _, _, _, _, _ => none
 | k + 1, x1, x7, x8, x217000, x217001 => if x8 = true then (spec_l10Reached.l1 k x1 x7 false 0 x217000 x217001) else (some x7)
def spec_l10Reached.l1 : Nat → Int → Int → Bool → Int → Int → List (List Int) → Option (Int)
 | 0, _, _, _, _, _, _ => none
 | k + 1, x1, x7, x8, x9, x217000, x217001 => if x9 < (x217001.length : Int) then (if 0 ≤ x9 then (if 0 < ((rd_L1 x217001 x9).length : Int) then (if 0 ≤ (IntKind.u64.wrap (rd (rd_L1 x217001 x9) 0)) then (if 1 < ((rd_L1 x217001 x9).length : Int) then (if 0 ≤ (IntKind.u64.wrap (rd (rd_L1 x217001 x9) 1)) then (if 0 ≤ (IntKind.u64.wrap (x9)) then (if (Go.bits .and .i64 (shr .i64 x1 (IntKind.u64.wrap (x9))) 1) = 1 then (if (Go.bits .and .i64 (shr .i64 x7 (IntKind.u64.wrap (rd (rd_L1 x217001 x9) 0))) 1) = (Go.bits .and .i64 (shr .i64 x7 (IntKind.u64.wrap (rd (rd_L1 x217001 x9) 1))) 1) then (spec_l10Reached.l1 k x1 x7 x8 (wrap64 (x9 + 1)) x217000 x217001) else (spec_l10Reached.l1 k x1 (Go.bits .or .i64 (Go.bits .or .i64 x7 (shl .i64 1 (IntKind.u64.wrap (rd (rd_L1 x217001 x9) 0)))) (shl .i64 1 (IntKind.u64.wrap (rd (rd_L1 x217001 x9) 1)))) true (wrap64 (x9 + 1)) x217000 x217001)) else (spec_l10Reached.l1 k x1 x7 x8 (wrap64 (x9 + 1)) x217000 x217001)) else (none)) else (none)) else (none)) else (none)) else (none)) else (none)) else (spec_l10Reached.l0 k x1 x7 x8 x217000 x217001)
end
def spec_l10Reached.f (k : Nat) (a0_0 : Int) (l0_1 : List (List Int)) (a1 : Int) (a2 : Int) : Option (Int) := if 0 ≤ (IntKind.u64.wrap (a2)) then (spec_l10Reached.l0 k a1 (shl .i64 1 (IntKind.u64.wrap (a2))) true a0_0 l0_1) else (none)
theorem spec_l10Reached.mono_l : ∀ k, (∀ y0 y1 y2 y3 y4, LeO (spec_l10Reached.l0 k y0 y1 y2 y3 y4) (spec_l10Reached.l0 (k + 1) y0 y1 y2 y3 y4)) ∧ (∀ y0 y1 y2 y3 y4 y5, LeO (spec_l10Reached.l1 k y0 y1 y2 y3 y4 y5) (spec_l10Reached.l1 (k + 1) y0 y1 y2 y3 y4 y5))
 | 0 => ⟨fun _ _ _ _ _ r h => by simp [spec_l10Reached.l0] at h, fun _ _ _ _ _ _ r h => by simp [spec_l10Reached.l1] at h⟩
 | k + 1 => by
  obtain ⟨ih0, ih1⟩ := spec_l10Reached.mono_l k
  refine ⟨?_, ?_⟩
  ·intro y0 y1 y2 y3 y4
   unfold spec_l10Reached.l0
   repeat' first
   | (with_reducible exact ih0 _ _ _ _ _)
   | (with_reducible exact ih1 _ _ _ _ _ _)
   | (with_reducible exact LeO.refl _)
   | (with_reducible exact LeO.none _)
   | (with_reducible refine LeO.ite ?_ ?_)
   | (with_reducible refine LeO.bind ?_ (fun _ => ?_))
   | exact ih0 _ _ _ _ _
   | exact ih1 _ _ _ _ _ _
   | exact LeO.none _
   | refine LeO.ite ?_ ?_
   | refine LeO.bind ?_ (fun _ => ?_)
  ·intro y0 y1 y2 y3 y4 y5
   unfold spec_l10Reached.l1
   repeat' first
   | (with_reducible exact ih0 _ _ _ _ _)
   | (with_reducible exact ih1 _ _ _ _ _ _)
   | (with_reducible exact LeO.refl _)
   | (with_reducible exact LeO.none _)
   | (with_reducible refine LeO.ite ?_ ?_)
   | (with_reducible refine LeO.bind ?_ (fun _ => ?_))
   | exact ih0 _ _ _ _ _
   | exact ih1 _ _ _ _ _ _
   | exact LeO.none _
   | refine LeO.ite ?_ ?_
   | refine LeO.bind ?_ (fun _ => ?_)
theorem spec_l10Reached.mono : ∀ a0 a1 a2 a3 k, LeO (spec_l10Reached.f k a0 a1 a2 a3) (spec_l10Reached.f (k + 1) a0 a1 a2 a3) := by
 intro a0 a1 a2 a3 k
 obtain ⟨ih0, ih1⟩ := spec_l10Reached.mono_l k
 unfold spec_l10Reached.f
 repeat' first
   | (with_reducible exact ih0 _ _ _ _ _)
   | (with_reducible exact ih1 _ _ _ _ _ _)
   | (with_reducible exact LeO.refl _)
   | (with_reducible exact LeO.none _)
   | (with_reducible refine LeO.ite ?_ ?_)
   | (with_reducible refine LeO.bind ?_ (fun _ => ?_))
   | exact ih0 _ _ _ _ _
   | exact ih1 _ _ _ _ _ _
   | exact LeO.none _
   | refine LeO.ite ?_ ?_
   | refine LeO.bind ?_ (fun _ => ?_)
set_option maxHeartbeats 8000000 in
set_option maxRecDepth 100000 in
theorem spec_l10Reached.calls (k : Nat) (a0_0 : Int) (A0_1 : Option Addr) (c0_1 : Nat) (l0_1 : List (List Int)) (a1 : Int) (a2 : Int) (r : Int) (w : World) (hr0_1 : Kd.C (Kd.slice 2 (Kd.int .i64)) w A0_1 l0_1.length l0_1) (hc0_1 : l0_1.length ≤ c0_1) (h : spec_l10Reached.f k a0_0 l0_1 a1 a2 = some r) :
  Calls Try.prog 68 #[.agg #[.int .i64 a0_0, .slice A0_1 l0_1.length c0_1], .int .i64 a1, .int .i64 a2] w fun e w' => e = .returned (.int .i64 r) ∧ Below w.heap.size w w' := by
 have hu33 := Try.underlying33
 have HR0_1 := Aside0.mk hr0_1
 have HC0_1 := Aside0.mk hc0_1
 clear hr0_1 hc0_1
 have HB := Aside0.mk (Below.refl w.heap.size w)
 have H : (if 0 ≤ (IntKind.u64.wrap (a2)) then (spec_l10Reached.l0 k a1 (shl .i64 1 (IntKind.u64.wrap (a2))) true a0_0 l0_1) else (none)) = some r := h
 clear h
 obtain ⟨ji4, hji4⟩ : ∃ j_ : Int, (IntKind.u64.wrap (a2)) = j_ := ⟨_, rfl⟩
 replace H : (if 0 ≤ (ji4) then (spec_l10Reached.l0 k a1 (shl .i64 1 (ji4)) true a0_0 l0_1) else (none)) = some r := by first | (rw [hji4] at H; exact H) | (simp only [hji4] at H ⊢; exact H)
 by_cases c5 : 0 ≤ (ji4)
 ·rw [if_pos c5] at H
  have c5b0 := eq_true c5
  have c5b1 : decide (0 ≤ (ji4)) = true := decide_eq_true c5
  clear c5
  obtain ⟨ji6, hji6⟩ : ∃ j_ : Int, (shl .i64 1 (ji4)) = j_ := ⟨_, rfl⟩
  replace H : (spec_l10Reached.l0 k a1 ji6 true a0_0 l0_1) = some r := by first | (rw [hji6] at H; exact H) | (simp only [hji6] at H ⊢; exact H)
  have hji6_ : (IntKind.i64.wrap (1 * 2 ^ min (ji4).toNat 64)) = ji6 := hji6
  have hji6z : (ji4) ≤ 64 → (IntKind.i64.wrap (1 * 2 ^ (ji4).toNat)) = ji6 := shl_small hji6
  have hji6u : (IntKind.i64.wrap (2 ^ min (ji4).toNat 64)) = ji6 := by have h_ := hji6_; rw [Int.one_mul] at h_; exact h_
  have hji6v : (ji4) ≤ 64 → (IntKind.i64.wrap (2 ^ (ji4).toNat)) = ji6 := fun hle_ => by have h_ := hji6z hle_; rw [Int.one_mul] at h_; exact h_
  have hji6y : (wrap64 (1 * 2 ^ min (ji4).toNat 64)) = ji6 := (i64_w _).symm.trans hji6_
  have hji6x : (ji4) ≤ 64 → (wrap64 (1 * 2 ^ (ji4).toNat)) = ji6 := fun h_ => (i64_w _).symm.trans (hji6z h_)
  have H' := Aside0.mk H
  clear H
  go_enter Try.func68, Try.ntmps68
  go_wp2_with (first | ((with_reducible refine gate_dst (N := 3) rfl ?_); refine box_event ?hg (N := 3) ?hd (cs := #[.int .i64 a0_0, .slice A0_1 l0_1.length c0_1]) (t := 33) ?hr ?_; (case hd => rfl); (case hg => rfl); (case hr => first | (go_simp; done) | (go_simp; rfl)); intro gb216 hg w7 hbox hb; have n0_ := Aside0.mk (below_step (by repeat (first | (with_reducible first | exact HB.out | apply below_alloc | apply pw_below_drewN | apply below_drew1) | exact HB.out)) hb); have n1_ := Aside0.mk (hbox); have n2_ := Aside0.mk ((by rw [hg]; exact (below_size (by repeat (first | (with_reducible first | exact HB.out | apply below_alloc | apply pw_below_drewN | apply below_drew1) | exact HB.out))) : w.heap.size ≤ gb216)); have n3_ := Aside0.mk ((by rw [hg]; exact (below_size (by repeat (first | (with_reducible first | exact HB.out | apply below_alloc | apply pw_below_drewN | apply below_drew1) | exact HB.out))) : w.heap.size ≤ gb216)); clear HB; have HB := n0_; have BK216 := n1_; have GW216 := n2_; have GE216 := n3_; clear n0_ n1_ n2_ n3_; clear hb hbox hg))
  repeat (go_quiet (first | ((with_reducible refine gate_dst (N := 3) rfl ?_); refine box_event ?hg (N := 3) ?hd (cs := #[.int .i64 a0_0, .slice A0_1 l0_1.length c0_1]) (t := 33) ?hr ?_; (case hd => rfl); (case hg => rfl); (case hr => first | (go_simp; done) | (go_simp; rfl)); intro gb216 hg w7 hbox hb; have n0_ := Aside0.mk (below_step (by repeat (first | (with_reducible first | exact HB.out | apply below_alloc | apply pw_below_drewN | apply below_drew1) | exact HB.out)) hb); have n1_ := Aside0.mk (hbox); have n2_ := Aside0.mk ((by rw [hg]; exact (below_size (by repeat (first | (with_reducible first | exact HB.out | apply below_alloc | apply pw_below_drewN | apply below_drew1) | exact HB.out))) : w.heap.size ≤ gb216)); have n3_ := Aside0.mk ((by rw [hg]; exact (below_size (by repeat (first | (with_reducible first | exact HB.out | apply below_alloc | apply pw_below_drewN | apply below_drew1) | exact HB.out))) : w.heap.size ≤ gb216)); clear HB; have HB := n0_; have BK216 := n1_; have GW216 := n2_; have GE216 := n3_; clear n0_ n1_ n2_ n3_; clear hb hbox hg)); try go_wp2_with (first | ((with_reducible refine gate_dst (N := 3) rfl ?_); refine box_event ?hg (N := 3) ?hd (cs := #[.int .i64 a0_0, .slice A0_1 l0_1.length c0_1]) (t := 33) ?hr ?_; (case hd => rfl); (case hg => rfl); (case hr => first | (go_simp; done) | (go_simp; rfl)); intro gb216 hg w7 hbox hb; have n0_ := Aside0.mk (below_step (by repeat (first | (with_reducible first | exact HB.out | apply below_alloc | apply pw_below_drewN | apply below_drew1) | exact HB.out)) hb); have n1_ := Aside0.mk (hbox); have n2_ := Aside0.mk ((by rw [hg]; exact (below_size (by repeat (first | (with_reducible first | exact HB.out | apply below_alloc | apply pw_below_drewN | apply below_drew1) | exact HB.out))) : w.heap.size ≤ gb216)); have n3_ := Aside0.mk ((by rw [hg]; exact (below_size (by repeat (first | (with_reducible first | exact HB.out | apply below_alloc | apply pw_below_drewN | apply below_drew1) | exact HB.out))) : w.heap.size ≤ gb216)); clear HB; have HB := n0_; have BK216 := n1_; have GW216 := n2_; have GE216 := n3_; clear n0_ n1_ n2_ n3_; clear hb hbox hg)))
  go_loopg [7, 8] k (fun kq v7 v8 w' => ∃ (x7_1 : Int) (x8_1 : Bool), v7 = .int .i64 x7_1 ∧ v8 = .bool x8_1 ∧ Aside0 (spec_l10Reached.l0 kq a1 x7_1 x8_1 a0_0 l0_1 = some r) ∧ Aside0 (kq ≤ k) ∧ Aside0 (w'.heap[gb216]? = some (.cells #[.int .i64 a0_0, (.slice A0_1 l0_1.length c0_1)] 33 (0, 0))) ∧ Aside0 (Below w.heap.size w w'))
  case atStart => exact ⟨(ji6), (true), (by first | rfl | (simp; done) | (simp only [← hji6] <;> (first | rfl | simp)) | (simp [*]; done)), (by first | rfl | (simp; done) | (simp [*]; done)), H', ⟨Nat.le_refl _⟩, ⟨by (with_reducible repeat (first | refine blk_drewN ?_ _ | refine blk_drew ?_ | refine blk_alloc ?_ _)); exact BK216.out⟩, ⟨by repeat (first | (with_reducible first | exact HB.out | apply below_alloc | apply pw_below_drewN | apply below_drew1 | refine below_set ?_ GE216.out) | exact HB.out)⟩⟩
  case round =>
   clear H'
   try clear p2
   try clear c5
   try clear c5b0
   try clear c5b1
   try clear c6
   try clear p6
   obtain ⟨x7_1, x8_1, rfl, rfl, HA, HK1, BK216, HB⟩ := hrel
   cases gk with
   | zero => exact absurd HA.out (by simp [spec_l10Reached.l0])
   | succ k1 =>
    have H := HA.out
    clear HA
    simp only [spec_l10Reached.l0] at H
    by_cases c8 : x8_1 = true
    ·subst c8
     have H1 : (spec_l10Reached.l1 k1 a1 x7_1 false 0 a0_0 l0_1) = some r := by rw [if_pos rfl] at H; exact H
     clear H
     have H := H1
     clear H1
     have H' := Aside0.mk H
     clear H
     go_wp2
     repeat (go_quiet (fail); try go_wp2)
     go_loopg [7, 8, 9] k1 (fun kq v7 v8 v9 w' => ∃ (x7_2 : Int) (x8_2 : Bool) (x9_2 : Int), v7 = .int .i64 x7_2 ∧ v8 = .bool x8_2 ∧ v9 = .int .i64 x9_2 ∧ Aside0 (spec_l10Reached.l1 kq a1 x7_2 x8_2 x9_2 a0_0 l0_1 = some r) ∧ Aside0 (kq ≤ k1) ∧ Aside0 (w'.heap[gb216]? = some (.cells #[.int .i64 a0_0, (.slice A0_1 l0_1.length c0_1)] 33 (0, 0))) ∧ Aside0 (Below w.heap.size w w'))
     case atStart => exact ⟨(x7_1), (false), (0), (by first | rfl | (simp; done) | (simp [*]; done)), (by first | rfl | (simp; done) | (simp [*]; done)), (by first | rfl | (simp; done) | (simp [*]; done)), H', ⟨Nat.le_refl _⟩, ⟨by (with_reducible repeat (first | refine blk_drewN ?_ _ | refine blk_drew ?_ | refine blk_alloc ?_ _)); exact BK216.out⟩, ⟨by repeat (first | (with_reducible first | exact HB.out | apply below_alloc | apply pw_below_drewN | apply below_drew1 | refine below_set ?_ GE216.out) | exact HB.out)⟩⟩
     case round =>
      clear H'
      try clear p2
      try clear c5
      try clear c5b0
      try clear c5b1
      try clear c6
      try clear p6
      try clear c8
      try clear p2
      try clear p6
      obtain ⟨x7_2, x8_2, x9_2, rfl, rfl, rfl, HA, HK2, BK216, HB⟩ := hrel
      cases gk with
      | zero => exact absurd HA.out (by simp [spec_l10Reached.l1])
      | succ k2 =>
       have H := HA.out
       clear HA
       simp only [spec_l10Reached.l1] at H
       by_cases c9 : x9_2 < (l0_1.length : Int)
       ·rw [if_pos c9] at H
        have c9b0 : decide (x9_2 < (l0_1.length : Int)) = true := decide_eq_true c9
        clear c9
        by_cases c10 : 0 ≤ x9_2
        ·rw [if_pos c10] at H
         have c10b0 : decide (0 ≤ x9_2) = true := decide_eq_true c10
         clear c10
         by_cases c11 : 0 < ((rd_L1 l0_1 x9_2).length : Int)
         ·rw [if_pos c11] at H
          have c11b0 : decide (0 < ((rd_L1 l0_1 x9_2).length : Int)) = true := decide_eq_true c11
          have c11b1 : decide (0 < (rd_L1 l0_1 x9_2).length) = true := decide_eq_true (by omega)
          clear c11
          obtain ⟨ji12, hji12⟩ : ∃ j_ : Int, (IntKind.u64.wrap (rd (rd_L1 l0_1 x9_2) 0)) = j_ := ⟨_, rfl⟩
          replace H : (if 0 ≤ (ji12) then (if 1 < ((rd_L1 l0_1 x9_2).length : Int) then (if 0 ≤ (IntKind.u64.wrap (rd (rd_L1 l0_1 x9_2) 1)) then (if 0 ≤ (IntKind.u64.wrap (x9_2)) then (if (Go.bits .and .i64 (shr .i64 a1 (IntKind.u64.wrap (x9_2))) 1) = 1 then (if (Go.bits .and .i64 (shr .i64 x7_2 (ji12)) 1) = (Go.bits .and .i64 (shr .i64 x7_2 (IntKind.u64.wrap (rd (rd_L1 l0_1 x9_2) 1))) 1) then (spec_l10Reached.l1 k2 a1 x7_2 x8_2 (wrap64 (x9_2 + 1)) a0_0 l0_1) else (spec_l10Reached.l1 k2 a1 (Go.bits .or .i64 (Go.bits .or .i64 x7_2 (shl .i64 1 (ji12))) (shl .i64 1 (IntKind.u64.wrap (rd (rd_L1 l0_1 x9_2) 1)))) true (wrap64 (x9_2 + 1)) a0_0 l0_1)) else (spec_l10Reached.l1 k2 a1 x7_2 x8_2 (wrap64 (x9_2 + 1)) a0_0 l0_1)) else (none)) else (none)) else (none)) else (none)) = some r := by first | (rw [hji12] at H; exact H) | (simp only [hji12] at H ⊢; exact H)
          by_cases c13 : 0 ≤ (ji12)
          ·rw [if_pos c13] at H
           have c13b0 := eq_true c13
           have c13b1 : decide (0 ≤ (ji12)) = true := decide_eq_true c13
           clear c13
           obtain ⟨ji14, hji14⟩ : ∃ j_ : Int, (shr .i64 x7_2 (ji12)) = j_ := ⟨_, rfl⟩
           replace H : (if 1 < ((rd_L1 l0_1 x9_2).length : Int) then (if 0 ≤ (IntKind.u64.wrap (rd (rd_L1 l0_1 x9_2) 1)) then (if 0 ≤ (IntKind.u64.wrap (x9_2)) then (if (Go.bits .and .i64 (shr .i64 a1 (IntKind.u64.wrap (x9_2))) 1) = 1 then (if (Go.bits .and .i64 (ji14) 1) = (Go.bits .and .i64 (shr .i64 x7_2 (IntKind.u64.wrap (rd (rd_L1 l0_1 x9_2) 1))) 1) then (spec_l10Reached.l1 k2 a1 x7_2 x8_2 (wrap64 (x9_2 + 1)) a0_0 l0_1) else (spec_l10Reached.l1 k2 a1 (Go.bits .or .i64 (Go.bits .or .i64 x7_2 (shl .i64 1 (ji12))) (shl .i64 1 (IntKind.u64.wrap (rd (rd_L1 l0_1 x9_2) 1)))) true (wrap64 (x9_2 + 1)) a0_0 l0_1)) else (spec_l10Reached.l1 k2 a1 x7_2 x8_2 (wrap64 (x9_2 + 1)) a0_0 l0_1)) else (none)) else (none)) else (none)) = some r := by first | (rw [hji14] at H; exact H) | (simp only [hji14] at H ⊢; exact H)
           have hji14_ : (x7_2 / 2 ^ min (ji12).toNat 64) = ji14 := hji14
           have hji14z : (ji12) ≤ 64 → (x7_2 / 2 ^ (ji12).toNat) = ji14 := shr_small hji14
           by_cases c15 : 1 < ((rd_L1 l0_1 x9_2).length : Int)
           ·rw [if_pos c15] at H
            have c15b0 : decide (1 < ((rd_L1 l0_1 x9_2).length : Int)) = true := decide_eq_true c15
            have c15b1 : decide (1 < (rd_L1 l0_1 x9_2).length) = true := decide_eq_true (by omega)
            clear c15
            obtain ⟨ji16, hji16⟩ : ∃ j_ : Int, (IntKind.u64.wrap (rd (rd_L1 l0_1 x9_2) 1)) = j_ := ⟨_, rfl⟩
            replace H : (if 0 ≤ (ji16) then (if 0 ≤ (IntKind.u64.wrap (x9_2)) then (if (Go.bits .and .i64 (shr .i64 a1 (IntKind.u64.wrap (x9_2))) 1) = 1 then (if (Go.bits .and .i64 (ji14) 1) = (Go.bits .and .i64 (shr .i64 x7_2 (ji16)) 1) then (spec_l10Reached.l1 k2 a1 x7_2 x8_2 (wrap64 (x9_2 + 1)) a0_0 l0_1) else (spec_l10Reached.l1 k2 a1 (Go.bits .or .i64 (Go.bits .or .i64 x7_2 (shl .i64 1 (ji12))) (shl .i64 1 (ji16))) true (wrap64 (x9_2 + 1)) a0_0 l0_1)) else (spec_l10Reached.l1 k2 a1 x7_2 x8_2 (wrap64 (x9_2 + 1)) a0_0 l0_1)) else (none)) else (none)) = some r := by first | (rw [hji16] at H; exact H) | (simp only [hji16] at H ⊢; exact H)
            by_cases c17 : 0 ≤ (ji16)
            ·rw [if_pos c17] at H
             have c17b0 := eq_true c17
             have c17b1 : decide (0 ≤ (ji16)) = true := decide_eq_true c17
             clear c17
             obtain ⟨ji18, hji18⟩ : ∃ j_ : Int, (shr .i64 x7_2 (ji16)) = j_ := ⟨_, rfl⟩
             replace H : (if 0 ≤ (IntKind.u64.wrap (x9_2)) then (if (Go.bits .and .i64 (shr .i64 a1 (IntKind.u64.wrap (x9_2))) 1) = 1 then (if (Go.bits .and .i64 (ji14) 1) = (Go.bits .and .i64 (ji18) 1) then (spec_l10Reached.l1 k2 a1 x7_2 x8_2 (wrap64 (x9_2 + 1)) a0_0 l0_1) else (spec_l10Reached.l1 k2 a1 (Go.bits .or .i64 (Go.bits .or .i64 x7_2 (shl .i64 1 (ji12))) (shl .i64 1 (ji16))) true (wrap64 (x9_2 + 1)) a0_0 l0_1)) else (spec_l10Reached.l1 k2 a1 x7_2 x8_2 (wrap64 (x9_2 + 1)) a0_0 l0_1)) else (none)) = some r := by first | (rw [hji18] at H; exact H) | (simp only [hji18] at H ⊢; exact H)
             have hji18_ : (x7_2 / 2 ^ min (ji16).toNat 64) = ji18 := hji18
             have hji18z : (ji16) ≤ 64 → (x7_2 / 2 ^ (ji16).toNat) = ji18 := shr_small hji18
             obtain ⟨ji19, hji19⟩ : ∃ j_ : Int, (IntKind.u64.wrap (x9_2)) = j_ := ⟨_, rfl⟩
             replace H : (if 0 ≤ (ji19) then (if (Go.bits .and .i64 (shr .i64 a1 (ji19)) 1) = 1 then (if (Go.bits .and .i64 (ji14) 1) = (Go.bits .and .i64 (ji18) 1) then (spec_l10Reached.l1 k2 a1 x7_2 x8_2 (wrap64 (x9_2 + 1)) a0_0 l0_1) else (spec_l10Reached.l1 k2 a1 (Go.bits .or .i64 (Go.bits .or .i64 x7_2 (shl .i64 1 (ji12))) (shl .i64 1 (ji16))) true (wrap64 (x9_2 + 1)) a0_0 l0_1)) else (spec_l10Reached.l1 k2 a1 x7_2 x8_2 (wrap64 (x9_2 + 1)) a0_0 l0_1)) else (none)) = some r := by first | (rw [hji19] at H; exact H) | (simp only [hji19] at H ⊢; exact H)
             by_cases c20 : 0 ≤ (ji19)
             ·rw [if_pos c20] at H
              have c20b0 := eq_true c20
              have c20b1 : decide (0 ≤ (ji19)) = true := decide_eq_true c20
              clear c20
              obtain ⟨ji21, hji21⟩ : ∃ j_ : Int, (shr .i64 a1 (ji19)) = j_ := ⟨_, rfl⟩
              replace H : (if (Go.bits .and .i64 (ji21) 1) = 1 then (if (Go.bits .and .i64 (ji14) 1) = (Go.bits .and .i64 (ji18) 1) then (spec_l10Reached.l1 k2 a1 x7_2 x8_2 (wrap64 (x9_2 + 1)) a0_0 l0_1) else (spec_l10Reached.l1 k2 a1 (Go.bits .or .i64 (Go.bits .or .i64 x7_2 (shl .i64 1 (ji12))) (shl .i64 1 (ji16))) true (wrap64 (x9_2 + 1)) a0_0 l0_1)) else (spec_l10Reached.l1 k2 a1 x7_2 x8_2 (wrap64 (x9_2 + 1)) a0_0 l0_1)) = some r := by first | (rw [hji21] at H; exact H) | (simp only [hji21] at H ⊢; exact H)
              have hji21_ : (a1 / 2 ^ min (ji19).toNat 64) = ji21 := hji21
              have hji21z : (ji19) ≤ 64 → (a1 / 2 ^ (ji19).toNat) = ji21 := shr_small hji21
              by_cases c22 : (Go.bits .and .i64 (ji21) 1) = 1
              ·rw [if_pos c22] at H
               have c22b0 : ((Go.bits .and .i64 (ji21) 1) == 1) = true := beq_iff_eq.mpr c22
               have c22b1 : ((Go.bits .and .i64 (ji21) 1) != 1) = false := bne_eq_false_iff_eq.mpr c22
               clear c22
               by_cases c23 : (Go.bits .and .i64 (ji14) 1) = (Go.bits .and .i64 (ji18) 1)
               ·rw [if_pos c23] at H
                have c23b0 : ((Go.bits .and .i64 (ji14) 1) == (Go.bits .and .i64 (ji18) 1)) = true := beq_iff_eq.mpr c23
                have c23b1 : ((Go.bits .and .i64 (ji14) 1) != (Go.bits .and .i64 (ji18) 1)) = false := bne_eq_false_iff_eq.mpr c23
                clear c23
                have H' := Aside0.mk H
                clear H
                have hcz24_0 : wr.cell? ⟨gb216, 0, none⟩ = some (.int .i64 a0_0) := (blk_cell BK216.out 0).trans rfl
                have hcz24_1 : wr.cell? ⟨gb216, 1, none⟩ = some (.slice A0_1 l0_1.length c0_1) := (blk_cell BK216.out 1).trans rfl
                have hfz24_0 := blk_frozen BK216.out 0
                have hfz24_1 := blk_frozen BK216.out 1
                have p217 : 0 ≤ (x9_2 : Int) := of_decide_eq_true (by first | (with_reducible assumption) | assumption)
                have q217 : x9_2 < (l0_1.length : Int) := of_decide_eq_true (by first | (with_reducible assumption) | assumption)
                obtain ⟨ad217, A217_0, c217_0, e217, hx217_0, hl217_0, hi217_0⟩ := at_L1 HR0_1.out x9_2 p217 q217
                cases e217
                replace hx217_0 := (HB.out.cell (World.block_lt_of_cell? w _ hx217_0)).trans hx217_0
                have HR217_0 := Aside0.mk hi217_0
                have HC217_0 := Aside0.mk hl217_0
                clear hi217_0 hl217_0
                replace p217 := eq_true p217
                replace q217 := eq_true q217
                have p218 : 0 ≤ (0 : Int) := (by omega)
                have q218 : 0 < ((rd_L1 l0_1 x9_2).length : Int) := of_decide_eq_true (by first | (with_reducible assumption) | assumption)
                obtain ⟨ad218, e218, hx218_0⟩ := Kd.at_int HR217_0.out 0 p218 q218
                cases e218
                have qi218 : (0 < (rd_L1 l0_1 x9_2).length) = True := eq_true (by omega)
                (try rw [show ((0 : Int)).toNat = 0 from rfl] at hx218_0)
                (try rw [Addr.add_zero'] at hx218_0)
                replace hx218_0 := (HB.out.cell (World.block_lt_of_cell? w _ hx218_0)).trans hx218_0
                replace p218 := eq_true p218
                replace q218 := eq_true q218
                have p219 : 0 ≤ (x9_2 : Int) := of_decide_eq_true (by first | (with_reducible assumption) | assumption)
                have q219 : x9_2 < (l0_1.length : Int) := of_decide_eq_true (by first | (with_reducible assumption) | assumption)
                obtain ⟨ad219, A219_0, c219_0, e219, hx219_0, hl219_0, hi219_0⟩ := at_L1 HR0_1.out x9_2 p219 q219
                obtain rfl : ad217 = ad219 := (by injection e219)
                replace hx219_0 := (HB.out.cell (World.block_lt_of_cell? w _ hx219_0)).trans hx219_0
                have HR219_0 := Aside0.mk hi219_0
                have HC219_0 := Aside0.mk hl219_0
                clear hi219_0 hl219_0
                replace p219 := eq_true p219
                replace q219 := eq_true q219
                have ea_ := Option.some.inj (hx217_0.symm.trans hx219_0)
                injection ea_ with ea_ en_ ec_
                subst ea_
                subst ec_
                clear en_
                have p220 : 0 ≤ (1 : Int) := (by omega)
                have q220 : 1 < ((rd_L1 l0_1 x9_2).length : Int) := of_decide_eq_true (by first | (with_reducible assumption) | assumption)
                obtain ⟨ad220, e220, hx220_0⟩ := Kd.at_int HR219_0.out 1 p220 q220
                cases e220
                (try simp only [show (1 : Int).toNat = 1 from rfl, Nat.reduceMul, Nat.reduceEqDiff, Go.Addr.add, ↓reduceIte] at hx220_0)
                have qi220 : (1 < (rd_L1 l0_1 x9_2).length) = True := eq_true (by omega)
                (try rw [show ((1 : Int)).toNat = 1 from rfl] at hx220_0)
                replace hx220_0 := (HB.out.cell (World.block_lt_of_cell? w _ hx220_0)).trans hx220_0
                replace p220 := eq_true p220
                replace q220 := eq_true q220
                go_wp2
                repeat (go_quiet (fail); try go_wp2)
                go_roundg k2
                case measure => have := HK1.out; have := HK2.out; omega
                case rel => exact ⟨(x7_2), (x8_2), (wrap64 (x9_2 + 1)), (by first | rfl | (simp; done) | (simp [*]; done)), (by first | rfl | (simp; done) | (simp [*]; done)), (by first | rfl | (simp; done) | (simp [*]; done)), H', ⟨by have := HK1.out; have := HK2.out; omega⟩, ⟨by (with_reducible repeat (first | refine blk_drewN ?_ _ | refine blk_drew ?_ | refine blk_alloc ?_ _)); exact BK216.out⟩, ⟨by repeat (first | (with_reducible first | exact HB.out | apply below_alloc | apply pw_below_drewN | apply below_drew1 | refine below_set ?_ GE216.out) | exact HB.out)⟩⟩
               ·rw [if_neg c23] at H
                have c23b0 : ((Go.bits .and .i64 (ji14) 1) == (Go.bits .and .i64 (ji18) 1)) = false := beq_eq_false_iff_ne.mpr c23
                have c23b1 : ((Go.bits .and .i64 (ji14) 1) != (Go.bits .and .i64 (ji18) 1)) = true := bne_iff_ne.mpr c23
                have c25b0 := eq_true (of_decide_eq_true (by first | (with_reducible assumption) | assumption) : 0 ≤ (ji12))
                obtain ⟨ji26, hji26⟩ : ∃ j_ : Int, (shl .i64 1 (ji12)) = j_ := ⟨_, rfl⟩
                replace H : (spec_l10Reached.l1 k2 a1 (Go.bits .or .i64 (Go.bits .or .i64 x7_2 (ji26)) (shl .i64 1 (ji16))) true (wrap64 (x9_2 + 1)) a0_0 l0_1) = some r := by first | (rw [hji26] at H; exact H) | (simp only [hji26] at H ⊢; exact H)
                have hji26_ : (IntKind.i64.wrap (1 * 2 ^ min (ji12).toNat 64)) = ji26 := hji26
                have hji26z : (ji12) ≤ 64 → (IntKind.i64.wrap (1 * 2 ^ (ji12).toNat)) = ji26 := shl_small hji26
                have hji26u : (IntKind.i64.wrap (2 ^ min (ji12).toNat 64)) = ji26 := by have h_ := hji26_; rw [Int.one_mul] at h_; exact h_
                have hji26v : (ji12) ≤ 64 → (IntKind.i64.wrap (2 ^ (ji12).toNat)) = ji26 := fun hle_ => by have h_ := hji26z hle_; rw [Int.one_mul] at h_; exact h_
                have hji26y : (wrap64 (1 * 2 ^ min (ji12).toNat 64)) = ji26 := (i64_w _).symm.trans hji26_
                have hji26x : (ji12) ≤ 64 → (wrap64 (1 * 2 ^ (ji12).toNat)) = ji26 := fun h_ => (i64_w _).symm.trans (hji26z h_)
                have c27b0 := eq_true (of_decide_eq_true (by first | (with_reducible assumption) | assumption) : 0 ≤ (ji16))
                obtain ⟨ji28, hji28⟩ : ∃ j_ : Int, (shl .i64 1 (ji16)) = j_ := ⟨_, rfl⟩
                replace H : (spec_l10Reached.l1 k2 a1 (Go.bits .or .i64 (Go.bits .or .i64 x7_2 (ji26)) (ji28)) true (wrap64 (x9_2 + 1)) a0_0 l0_1) = some r := by first | (rw [hji28] at H; exact H) | (simp only [hji28] at H ⊢; exact H)
                have hji28_ : (IntKind.i64.wrap (1 * 2 ^ min (ji16).toNat 64)) = ji28 := hji28
                have hji28z : (ji16) ≤ 64 → (IntKind.i64.wrap (1 * 2 ^ (ji16).toNat)) = ji28 := shl_small hji28
                have hji28u : (IntKind.i64.wrap (2 ^ min (ji16).toNat 64)) = ji28 := by have h_ := hji28_; rw [Int.one_mul] at h_; exact h_
                have hji28v : (ji16) ≤ 64 → (IntKind.i64.wrap (2 ^ (ji16).toNat)) = ji28 := fun hle_ => by have h_ := hji28z hle_; rw [Int.one_mul] at h_; exact h_
                have hji28y : (wrap64 (1 * 2 ^ min (ji16).toNat 64)) = ji28 := (i64_w _).symm.trans hji28_
                have hji28x : (ji16) ≤ 64 → (wrap64 (1 * 2 ^ (ji16).toNat)) = ji28 := fun h_ => (i64_w _).symm.trans (hji28z h_)
                have H' := Aside0.mk H
                clear H
                have hcz29_0 : wr.cell? ⟨gb216, 0, none⟩ = some (.int .i64 a0_0) := (blk_cell BK216.out 0).trans rfl
                have hcz29_1 : wr.cell? ⟨gb216, 1, none⟩ = some (.slice A0_1 l0_1.length c0_1) := (blk_cell BK216.out 1).trans rfl
                have hfz29_0 := blk_frozen BK216.out 0
                have hfz29_1 := blk_frozen BK216.out 1
                have p217 : 0 ≤ (x9_2 : Int) := of_decide_eq_true (by first | (with_reducible assumption) | assumption)
                have q217 : x9_2 < (l0_1.length : Int) := of_decide_eq_true (by first | (with_reducible assumption) | assumption)
                obtain ⟨ad217, A217_0, c217_0, e217, hx217_0, hl217_0, hi217_0⟩ := at_L1 HR0_1.out x9_2 p217 q217
                cases e217
                replace hx217_0 := (HB.out.cell (World.block_lt_of_cell? w _ hx217_0)).trans hx217_0
                have HR217_0 := Aside0.mk hi217_0
                have HC217_0 := Aside0.mk hl217_0
                clear hi217_0 hl217_0
                replace p217 := eq_true p217
                replace q217 := eq_true q217
                have p218 : 0 ≤ (0 : Int) := (by omega)
                have q218 : 0 < ((rd_L1 l0_1 x9_2).length : Int) := of_decide_eq_true (by first | (with_reducible assumption) | assumption)
                obtain ⟨ad218, e218, hx218_0⟩ := Kd.at_int HR217_0.out 0 p218 q218
                cases e218
                have qi218 : (0 < (rd_L1 l0_1 x9_2).length) = True := eq_true (by omega)
                (try rw [show ((0 : Int)).toNat = 0 from rfl] at hx218_0)
                (try rw [Addr.add_zero'] at hx218_0)
                replace hx218_0 := (HB.out.cell (World.block_lt_of_cell? w _ hx218_0)).trans hx218_0
                replace p218 := eq_true p218
                replace q218 := eq_true q218
                have p219 : 0 ≤ (x9_2 : Int) := of_decide_eq_true (by first | (with_reducible assumption) | assumption)
                have q219 : x9_2 < (l0_1.length : Int) := of_decide_eq_true (by first | (with_reducible assumption) | assumption)
                obtain ⟨ad219, A219_0, c219_0, e219, hx219_0, hl219_0, hi219_0⟩ := at_L1 HR0_1.out x9_2 p219 q219
                obtain rfl : ad217 = ad219 := (by injection e219)
                replace hx219_0 := (HB.out.cell (World.block_lt_of_cell? w _ hx219_0)).trans hx219_0
                have HR219_0 := Aside0.mk hi219_0
                have HC219_0 := Aside0.mk hl219_0
                clear hi219_0 hl219_0
                replace p219 := eq_true p219
                replace q219 := eq_true q219
                have ea_ := Option.some.inj (hx217_0.symm.trans hx219_0)
                injection ea_ with ea_ en_ ec_
                subst ea_
                subst ec_
                clear en_
                have p220 : 0 ≤ (1 : Int) := (by omega)
                have q220 : 1 < ((rd_L1 l0_1 x9_2).length : Int) := of_decide_eq_true (by first | (with_reducible assumption) | assumption)
                obtain ⟨ad220, e220, hx220_0⟩ := Kd.at_int HR219_0.out 1 p220 q220
                cases e220
                (try simp only [show (1 : Int).toNat = 1 from rfl, Nat.reduceMul, Nat.reduceEqDiff, Go.Addr.add, ↓reduceIte] at hx220_0)
                have qi220 : (1 < (rd_L1 l0_1 x9_2).length) = True := eq_true (by omega)
                (try rw [show ((1 : Int)).toNat = 1 from rfl] at hx220_0)
                replace hx220_0 := (HB.out.cell (World.block_lt_of_cell? w _ hx220_0)).trans hx220_0
                replace p220 := eq_true p220
                replace q220 := eq_true q220
                have p221 : 0 ≤ (x9_2 : Int) := of_decide_eq_true (by first | (with_reducible assumption) | assumption)
                have q221 : x9_2 < (l0_1.length : Int) := of_decide_eq_true (by first | (with_reducible assumption) | assumption)
                obtain ⟨ad221, A221_0, c221_0, e221, hx221_0, hl221_0, hi221_0⟩ := at_L1 HR0_1.out x9_2 p221 q221
                obtain rfl : ad217 = ad221 := (by injection e221)
                replace hx221_0 := (HB.out.cell (World.block_lt_of_cell? w _ hx221_0)).trans hx221_0
                have HR221_0 := Aside0.mk hi221_0
                have HC221_0 := Aside0.mk hl221_0
                clear hi221_0 hl221_0
                replace p221 := eq_true p221
                replace q221 := eq_true q221
                have ea_ := Option.some.inj (hx217_0.symm.trans hx221_0)
                injection ea_ with ea_ en_ ec_
                subst ea_
                subst ec_
                clear en_
                have p222 : 0 ≤ (0 : Int) := (by omega)
                have q222 : 0 < ((rd_L1 l0_1 x9_2).length : Int) := of_decide_eq_true (by first | (with_reducible assumption) | assumption)
                obtain ⟨ad222, e222, hx222_0⟩ := Kd.at_int HR221_0.out 0 p222 q222
                cases e222
                have qi222 : (0 < (rd_L1 l0_1 x9_2).length) = True := eq_true (by omega)
                (try rw [show ((0 : Int)).toNat = 0 from rfl] at hx222_0)
                (try rw [Addr.add_zero'] at hx222_0)
                replace hx222_0 := (HB.out.cell (World.block_lt_of_cell? w _ hx222_0)).trans hx222_0
                replace p222 := eq_true p222
                replace q222 := eq_true q222
                have p223 : 0 ≤ (x9_2 : Int) := of_decide_eq_true (by first | (with_reducible assumption) | assumption)
                have q223 : x9_2 < (l0_1.length : Int) := of_decide_eq_true (by first | (with_reducible assumption) | assumption)
                obtain ⟨ad223, A223_0, c223_0, e223, hx223_0, hl223_0, hi223_0⟩ := at_L1 HR0_1.out x9_2 p223 q223
                obtain rfl : ad217 = ad223 := (by injection e223)
                replace hx223_0 := (HB.out.cell (World.block_lt_of_cell? w _ hx223_0)).trans hx223_0
                have HR223_0 := Aside0.mk hi223_0
                have HC223_0 := Aside0.mk hl223_0
                clear hi223_0 hl223_0
                replace p223 := eq_true p223
                replace q223 := eq_true q223
                have ea_ := Option.some.inj (hx217_0.symm.trans hx223_0)
                injection ea_ with ea_ en_ ec_
                subst ea_
                subst ec_
                clear en_
                have p224 : 0 ≤ (1 : Int) := (by omega)
                have q224 : 1 < ((rd_L1 l0_1 x9_2).length : Int) := of_decide_eq_true (by first | (with_reducible assumption) | assumption)
                obtain ⟨ad224, e224, hx224_0⟩ := Kd.at_int HR223_0.out 1 p224 q224
                cases e224
                (try simp only [show (1 : Int).toNat = 1 from rfl, Nat.reduceMul, Nat.reduceEqDiff, Go.Addr.add, ↓reduceIte] at hx224_0)
                have qi224 : (1 < (rd_L1 l0_1 x9_2).length) = True := eq_true (by omega)
                (try rw [show ((1 : Int)).toNat = 1 from rfl] at hx224_0)
                replace hx224_0 := (HB.out.cell (World.block_lt_of_cell? w _ hx224_0)).trans hx224_0
                replace p224 := eq_true p224
                replace q224 := eq_true q224
                go_wp2
                repeat (go_quiet (fail); try go_wp2)
                go_roundg k2
                case measure => have := HK1.out; have := HK2.out; omega
                case rel => exact ⟨(Go.bits .or .i64 (Go.bits .or .i64 x7_2 (ji26)) (ji28)), (true), (wrap64 (x9_2 + 1)), (by first | rfl | (simp; done) | (simp only [← hji26, ← hji28] <;> (first | rfl | simp)) | (simp [*]; done)), (by first | rfl | (simp; done) | (simp [*]; done)), (by first | rfl | (simp; done) | (simp [*]; done)), H', ⟨by have := HK1.out; have := HK2.out; omega⟩, ⟨by (with_reducible repeat (first | refine blk_drewN ?_ _ | refine blk_drew ?_ | refine blk_alloc ?_ _)); exact BK216.out⟩, ⟨by repeat (first | (with_reducible first | exact HB.out | apply below_alloc | apply pw_below_drewN | apply below_drew1 | refine below_set ?_ GE216.out) | exact HB.out)⟩⟩
              ·rw [if_neg c22] at H
               have c22b0 : ((Go.bits .and .i64 (ji21) 1) == 1) = false := beq_eq_false_iff_ne.mpr c22
               have c22b1 : ((Go.bits .and .i64 (ji21) 1) != 1) = true := bne_iff_ne.mpr c22
               have H' := Aside0.mk H
               clear H
               have hcz30_0 : wr.cell? ⟨gb216, 0, none⟩ = some (.int .i64 a0_0) := (blk_cell BK216.out 0).trans rfl
               have hcz30_1 : wr.cell? ⟨gb216, 1, none⟩ = some (.slice A0_1 l0_1.length c0_1) := (blk_cell BK216.out 1).trans rfl
               have hfz30_0 := blk_frozen BK216.out 0
               have hfz30_1 := blk_frozen BK216.out 1
               have p217 : 0 ≤ (x9_2 : Int) := of_decide_eq_true (by first | (with_reducible assumption) | assumption)
               have q217 : x9_2 < (l0_1.length : Int) := of_decide_eq_true (by first | (with_reducible assumption) | assumption)
               obtain ⟨ad217, A217_0, c217_0, e217, hx217_0, hl217_0, hi217_0⟩ := at_L1 HR0_1.out x9_2 p217 q217
               cases e217
               replace hx217_0 := (HB.out.cell (World.block_lt_of_cell? w _ hx217_0)).trans hx217_0
               have HR217_0 := Aside0.mk hi217_0
               have HC217_0 := Aside0.mk hl217_0
               clear hi217_0 hl217_0
               replace p217 := eq_true p217
               replace q217 := eq_true q217
               have p218 : 0 ≤ (0 : Int) := (by omega)
               have q218 : 0 < ((rd_L1 l0_1 x9_2).length : Int) := of_decide_eq_true (by first | (with_reducible assumption) | assumption)
               obtain ⟨ad218, e218, hx218_0⟩ := Kd.at_int HR217_0.out 0 p218 q218
               cases e218
               have qi218 : (0 < (rd_L1 l0_1 x9_2).length) = True := eq_true (by omega)
               (try rw [show ((0 : Int)).toNat = 0 from rfl] at hx218_0)
               (try rw [Addr.add_zero'] at hx218_0)
               replace hx218_0 := (HB.out.cell (World.block_lt_of_cell? w _ hx218_0)).trans hx218_0
               replace p218 := eq_true p218
               replace q218 := eq_true q218
               have p219 : 0 ≤ (x9_2 : Int) := of_decide_eq_true (by first | (with_reducible assumption) | assumption)
               have q219 : x9_2 < (l0_1.length : Int) := of_decide_eq_true (by first | (with_reducible assumption) | assumption)
               obtain ⟨ad219, A219_0, c219_0, e219, hx219_0, hl219_0, hi219_0⟩ := at_L1 HR0_1.out x9_2 p219 q219
               obtain rfl : ad217 = ad219 := (by injection e219)
               replace hx219_0 := (HB.out.cell (World.block_lt_of_cell? w _ hx219_0)).trans hx219_0
               have HR219_0 := Aside0.mk hi219_0
               have HC219_0 := Aside0.mk hl219_0
               clear hi219_0 hl219_0
               replace p219 := eq_true p219
               replace q219 := eq_true q219
               have ea_ := Option.some.inj (hx217_0.symm.trans hx219_0)
               injection ea_ with ea_ en_ ec_
               subst ea_
               subst ec_
               clear en_
               have p220 : 0 ≤ (1 : Int) := (by omega)
               have q220 : 1 < ((rd_L1 l0_1 x9_2).length : Int) := of_decide_eq_true (by first | (with_reducible assumption) | assumption)
               obtain ⟨ad220, e220, hx220_0⟩ := Kd.at_int HR219_0.out 1 p220 q220
               cases e220
               (try simp only [show (1 : Int).toNat = 1 from rfl, Nat.reduceMul, Nat.reduceEqDiff, Go.Addr.add, ↓reduceIte] at hx220_0)
               have qi220 : (1 < (rd_L1 l0_1 x9_2).length) = True := eq_true (by omega)
               (try rw [show ((1 : Int)).toNat = 1 from rfl] at hx220_0)
               replace hx220_0 := (HB.out.cell (World.block_lt_of_cell? w _ hx220_0)).trans hx220_0
               replace p220 := eq_true p220
               replace q220 := eq_true q220
               go_wp2
               repeat (go_quiet (fail); try go_wp2)
               go_roundg k2
               case measure => have := HK1.out; have := HK2.out; omega
               case rel => exact ⟨(x7_2), (x8_2), (wrap64 (x9_2 + 1)), (by first | rfl | (simp; done) | (simp [*]; done)), (by first | rfl | (simp; done) | (simp [*]; done)), (by first | rfl | (simp; done) | (simp [*]; done)), H', ⟨by have := HK1.out; have := HK2.out; omega⟩, ⟨by (with_reducible repeat (first | refine blk_drewN ?_ _ | refine blk_drew ?_ | refine blk_alloc ?_ _)); exact BK216.out⟩, ⟨by repeat (first | (with_reducible first | exact HB.out | apply below_alloc | apply pw_below_drewN | apply below_drew1 | refine below_set ?_ GE216.out) | exact HB.out)⟩⟩
             ·rw [if_neg c20] at H
              exact absurd H (by simp)
            ·rw [if_neg c17] at H
             exact absurd H (by simp)
           ·rw [if_neg c15] at H
            exact absurd H (by simp)
          ·rw [if_neg c13] at H
           exact absurd H (by simp)
         ·rw [if_neg c11] at H
          exact absurd H (by simp)
        ·rw [if_neg c10] at H
         exact absurd H (by simp)
       ·rw [if_neg c9] at H
        have c9b0 : decide (x9_2 < (l0_1.length : Int)) = false := decide_eq_false c9
        clear c9
        have H' := Aside0.mk H
        clear H
        have hcz31_0 : wr.cell? ⟨gb216, 0, none⟩ = some (.int .i64 a0_0) := (blk_cell BK216.out 0).trans rfl
        have hcz31_1 : wr.cell? ⟨gb216, 1, none⟩ = some (.slice A0_1 l0_1.length c0_1) := (blk_cell BK216.out 1).trans rfl
        have hfz31_0 := blk_frozen BK216.out 0
        have hfz31_1 := blk_frozen BK216.out 1
        go_wp2
        repeat (go_quiet (fail); try go_wp2)
        go_roundg k2
        case measure => have := HK1.out; have := HK2.out; omega
        case rel => exact ⟨(x7_2), (x8_2), (by first | rfl | (simp; done) | (simp [*]; done)), (by first | rfl | (simp; done) | (simp [*]; done)), H', ⟨by have := HK1.out; have := HK2.out; omega⟩, ⟨by (with_reducible repeat (first | refine blk_drewN ?_ _ | refine blk_drew ?_ | refine blk_alloc ?_ _)); exact BK216.out⟩, ⟨by repeat (first | (with_reducible first | exact HB.out | apply below_alloc | apply pw_below_drewN | apply below_drew1 | refine below_set ?_ GE216.out) | exact HB.out)⟩⟩
    ·replace c8 := Bool.eq_false_iff.mpr c8
     subst c8
     have H1 : (some x7_1) = some r := by rw [if_neg (show ¬ (false = true) by decide)] at H; exact H
     clear H
     have H := H1
     clear H1
     obtain rfl := Option.some.inj H
     go_wp2
     repeat (go_quiet (fail); try go_wp2)
     go_ret
     exact ⟨by first | rfl | (simp [errW_none, errW_some] <;> rfl) | (simp only [← hji4, ← hji6]; first | rfl | (simp [errW_none, errW_some] <;> rfl)) | (simp [*, errW_none, errW_some] <;> rfl), by repeat (first | (with_reducible first | exact HB.out | apply below_alloc | apply pw_below_drewN | apply below_drew1 | refine below_set ?_ GE216.out) | exact HB.out)⟩
 ·rw [if_neg c5] at H
  exact absurd H (by simp)

end Go.Proofs.Ytcjeccohlmmfoaa.F
