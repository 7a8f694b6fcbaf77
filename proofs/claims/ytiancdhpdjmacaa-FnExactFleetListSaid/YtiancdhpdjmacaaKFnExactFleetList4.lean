-- written by the session's program xp.py over the kit's print program, and by hand; texts joined by pack.py
import Derived.Test.YtiancdhpdjmacaaKFnExactFleetList3
namespace Go.Proofs.Ytiancdhpdjmacaa.F
open Go.RowKit Go.Proofs.YtiancdhpdjmacaaW.PrintWords Go.Proofs.YtiancdhpdjmacaaW.PrintLast Go.Proofs.YtiancdhpdjmacaaW.PrintMore
attribute [local go_sem] max2_int min2_int max_two min_two max_three min_three max_four min_four   -- for this text's walks alone
set_option linter.unusedVariables false
set_option linter.unusedSimpArgs false

/-! ### spec_FleetList: function 29 -/
-- EXTERNAL: by hand
-- spec_l09Is spec_l09Go
-- goFleets go_env seaV_nat sea_ships fnil_
def spec_FleetList.f (k : Nat) (a0_0 a0_1 : Int) (l0_2 : List Int) : Option (List (List Int) × Int) := (spec_l09Is.f k a0_0 a0_1 l0_2).bind fun b => if b = true then (if seaV a0_0 a0_1 l0_2 = true then (if 300 < (goFleets a0_0 a0_1 l0_2 [] 301).length then some ([], 3) else some (goFleets a0_0 a0_1 l0_2 [] 301, 0)) else none) else some ([], 1)
set_option maxHeartbeats 4000000 in
set_option maxRecDepth 100000 in
theorem spec_FleetList.calls (k : Nat) (a0_0 a0_1 : Int) (A0_2 : Option Addr) (c0_2 : Nat) (l0_2 : List Int) (r1 : List (List Int)) (r2 : Int) (w : World) (hr0_2 : Kd.C (Kd.int .i64) w A0_2 l0_2.length l0_2) (hc0_2 : l0_2.length ≤ c0_2) (h : spec_FleetList.f k a0_0 a0_1 l0_2 = some (r1, r2)) :
    Calls Try.prog 29 #[.agg #[.int .i64 a0_0, .int .i64 a0_1, .slice A0_2 l0_2.length c0_2]] w fun e w' => ∃ v0_ : Value, e = .returned (.tuple #[v0_, .int .i64 r2]) ∧ Kd.V (Kd.slice 2 (Kd.int .i64)) 22 w' w.heap.size (fun k_ => (w.heap.size ≤ k_)) v0_ r1 ∧ Below w.heap.size w w' := by
  unfold spec_FleetList.f at h
  obtain ⟨b, hb0, h⟩ := Option.bind_eq_some_iff.1 h
  have HIS := Aside0.mk hb0
  have HR := Aside0.mk hr0_2
  have HC := Aside0.mk hc0_2
  have hu28 := Try.underlying28
  clear hr0_2 hc0_2 hb0
  cases b with
  | false =>
    rw [if_neg (by simp)] at h
    simp only [Option.some.injEq, Prod.mk.injEq] at h
    obtain ⟨rfl, rfl⟩ := h
    go_enter Try.func29, Try.ntmps29
    go_wp2_with (first | ((with_reducible refine gate_dst (N := 1) rfl ?_); refine box_event ?hg (N := 1) ?hd (cs := #[.int .i64 a0_0, .int .i64 a0_1, .slice A0_2 l0_2.length c0_2]) (t := 28) ?hr ?_; (case hd => rfl); (case hg => rfl); (case hr => first | (go_simp; done) | (go_simp; rfl)); intro g1 hg1 w1 hbox hb; have HX := Aside0.mk hbox; have HB := Aside0.mk hb; clear hbox hb hg1; have hs0 := (blk_cell HX.out 0).trans rfl; have hs1 := (blk_cell HX.out 1).trans rfl; have hs2 := (blk_cell HX.out 2).trans rfl) | (go_at_call 55; refine (spec_l09Is.calls k a0_0 a0_1 A0_2 c0_2 l0_2 _ _ (Kd.C_below HR.out HB.out) HC.out HIS.out).mono ?_; rintro e w3 ⟨rfl, hb⟩; (try clear hs0); (try clear hs1); (try clear hs2); have n_ := Aside0.mk (blk_below HX.out hb); clear HX; have HX := n_; clear n_; have n_ := Aside0.mk (below_step HB.out hb); clear HB; have HB := n_; clear n_; clear hb; have hs0 := (blk_cell HX.out 0).trans rfl; have hs1 := (blk_cell HX.out 1).trans rfl; have hs2 := (blk_cell HX.out 2).trans rfl))
    go_ret2
    exact ⟨_, rfl, Kd.V_nil _ _ _ _ _, HB.out⟩
  | true =>
    rw [if_pos rfl] at h
    split at h
    case isFalse => cases h
    rename_i hs
    obtain ⟨⟨W0, rfl, hw1, hw5⟩, ⟨H0, rfl, hh1, hh5⟩, hs1, hs3⟩ := seaV_nat hs
    have HW := Aside0.mk (And.intro hw1 hw5)
    have HH := Aside0.mk (And.intro hh1 hh5)
    have HSz := Aside0.mk (And.intro hs1 hs3)
    have HEnv := Aside0.mk (go_env (T := []) ⟨hw1, hw5⟩ ⟨hh1, hh5⟩ l0_2 hs3 (sea_ships hs) (Nat.zero_le _) (fun x hx => by cases hx))
    have HLen := Aside0.mk (show ([] : List Int).length + l0_2.length = l0_2.length by simp)
    have HNo : ∀ w : World, Aside0 (Kd.C k93 w none 0 ([] : List S93)) := fun w => ⟨rfl, Nat.zero_le _, fun hp => absurd hp (by simp)⟩
    obtain ⟨fls, hfl⟩ : ∃ fls, goV W0 H0 l0_2 [] l0_2.length [] 0 301 = fls := ⟨_, rfl⟩
    have HFl := Aside0.mk hfl
    have e : goFleets (W0 : Int) (H0 : Int) l0_2 [] 301 = fls := by unfold goFleets; simp only [Int.toNat_natCast]; exact hfl
    rw [e] at h
    clear hs hw1 hw5 hh1 hh5 hs1 hs3 hfl e
    by_cases hn : 300 < fls.length
    · rw [if_pos hn] at h
      simp only [Option.some.injEq, Prod.mk.injEq] at h
      obtain ⟨rfl, rfl⟩ := h
      have e3 := decide_eq_true (show (fls.length : Int) > 300 by omega)
      have e4 := decide_eq_true (show (300 : Int) < (fls.length : Int) by omega)
      have e5 := decide_eq_true hn
      clear hn
      go_enter Try.func29, Try.ntmps29
      go_wp2_with (first | ((with_reducible refine gate_dst (N := 1) rfl ?_); refine box_event ?hg (N := 1) ?hd (cs := #[.int .i64 (W0 : Int), .int .i64 (H0 : Int), .slice A0_2 l0_2.length c0_2]) (t := 28) ?hr ?_; (case hd => rfl); (case hg => rfl); (case hr => first | (go_simp; done) | (go_simp; rfl)); intro g1 hg1 w1 hbox hb; have HX := Aside0.mk hbox; have HB := Aside0.mk hb; clear hbox hb hg1; have hs0 := (blk_cell HX.out 0).trans rfl; have hs1 := (blk_cell HX.out 1).trans rfl; have hs2 := (blk_cell HX.out 2).trans rfl) | (go_at_call 55; refine (spec_l09Is.calls k (W0 : Int) (H0 : Int) A0_2 c0_2 l0_2 _ _ (Kd.C_below HR.out HB.out) HC.out HIS.out).mono ?_; rintro e w3 ⟨rfl, hb⟩; (try clear hs0); (try clear hs1); (try clear hs2); have n_ := Aside0.mk (blk_below HX.out hb); clear HX; have HX := n_; clear n_; have n_ := Aside0.mk (below_step HB.out hb); clear HB; have HB := n_; clear n_; clear hb; have hs0 := (blk_cell HX.out 0).trans rfl; have hs1 := (blk_cell HX.out 1).trans rfl; have hs2 := (blk_cell HX.out 2).trans rfl) | ((with_reducible refine gate_dst (N := 9) rfl ?_); refine Kd.R_lit (Kd.int .i64) _ 2 ?hg (N := 9) ?hd (xs := ([] : List Int)) (inner := []) (ok := fun _ => True) (okp := fun _ => True) ?hr ?hp (fun _ hk => hk) trivial (Below.refl _ _) (Nat.le_refl _) (by simp) ?_; (case hd => rfl); (case hg => rfl); (case hr => first | (go_simp; done) | (go_simp; rfl)); (case hp => exact Reps.none _ _); intro v8 w4 ho hb hg_ hnew_; clear hg_ hnew_; obtain ⟨A8, c8, e8⟩ := Kd.R_slice ho; subst e8; clear ho; (try clear hs0); (try clear hs1); (try clear hs2); have n_ := Aside0.mk (blk_below HX.out hb); clear HX; have HX := n_; clear n_; have n_ := Aside0.mk (below_step HB.out hb); clear HB; have HB := n_; clear n_; clear hb; have hs0 := (blk_cell HX.out 0).trans rfl; have hs1 := (blk_cell HX.out 1).trans rfl; have hs2 := (blk_cell HX.out 2).trans rfl) | (go_at_call 64; refine (spec_l09Go.does W0 H0 l0_2 A0_2 c0_2 none 0 [] HW.out.2 HH.out.2 HSz.out.2 HC.out (Nat.le_refl _) HEnv.out.1 HEnv.out.2 l0_2.length [] 0 301 A8 c8 (fun _ => False) _ HLen.out InPl.nil (by omega) (fnil_ _ _ _) (Nat.zero_le _) (HNo _).out (Kd.C_below HR.out HB.out)).mono ?_; rintro e w5 ⟨v9, rfl, ho, hb⟩; obtain ⟨A9, c9, e9⟩ := Kd.N_slice ho; subst e9; rw [HFl.out] at ho ⊢; have HN := Aside0.mk (Kd.N_mono (ok' := fun k_ => w.heap.size ≤ k_) ho (fun k hk => hk.elim False.elim (fun h => Nat.le_trans (below_size HB.out) h))); clear ho; (try clear hs0); (try clear hs1); (try clear hs2); have n_ := Aside0.mk (blk_below HX.out hb); clear HX; have HX := n_; clear n_; have n_ := Aside0.mk (below_step HB.out hb); clear HB; have HB := n_; clear n_; clear hb; have hs0 := (blk_cell HX.out 0).trans rfl; have hs1 := (blk_cell HX.out 1).trans rfl; have hs2 := (blk_cell HX.out 2).trans rfl))
      go_ret2
      exact ⟨_, rfl, Kd.V_nil _ _ _ _ _, HB.out⟩
    · rw [if_neg hn] at h
      simp only [Option.some.injEq, Prod.mk.injEq] at h
      obtain ⟨rfl, rfl⟩ := h
      have e3 := decide_eq_false (show ¬ (fls.length : Int) > 300 by omega)
      have e4 := decide_eq_false (show ¬ (300 : Int) < (fls.length : Int) by omega)
      have e5 := decide_eq_false hn
      clear hn
      go_enter Try.func29, Try.ntmps29
      go_wp2_with (first | ((with_reducible refine gate_dst (N := 1) rfl ?_); refine box_event ?hg (N := 1) ?hd (cs := #[.int .i64 (W0 : Int), .int .i64 (H0 : Int), .slice A0_2 l0_2.length c0_2]) (t := 28) ?hr ?_; (case hd => rfl); (case hg => rfl); (case hr => first | (go_simp; done) | (go_simp; rfl)); intro g1 hg1 w1 hbox hb; have HX := Aside0.mk hbox; have HB := Aside0.mk hb; clear hbox hb hg1; have hs0 := (blk_cell HX.out 0).trans rfl; have hs1 := (blk_cell HX.out 1).trans rfl; have hs2 := (blk_cell HX.out 2).trans rfl) | (go_at_call 55; refine (spec_l09Is.calls k (W0 : Int) (H0 : Int) A0_2 c0_2 l0_2 _ _ (Kd.C_below HR.out HB.out) HC.out HIS.out).mono ?_; rintro e w3 ⟨rfl, hb⟩; (try clear hs0); (try clear hs1); (try clear hs2); have n_ := Aside0.mk (blk_below HX.out hb); clear HX; have HX := n_; clear n_; have n_ := Aside0.mk (below_step HB.out hb); clear HB; have HB := n_; clear n_; clear hb; have hs0 := (blk_cell HX.out 0).trans rfl; have hs1 := (blk_cell HX.out 1).trans rfl; have hs2 := (blk_cell HX.out 2).trans rfl) | ((with_reducible refine gate_dst (N := 9) rfl ?_); refine Kd.R_lit (Kd.int .i64) _ 2 ?hg (N := 9) ?hd (xs := ([] : List Int)) (inner := []) (ok := fun _ => True) (okp := fun _ => True) ?hr ?hp (fun _ hk => hk) trivial (Below.refl _ _) (Nat.le_refl _) (by simp) ?_; (case hd => rfl); (case hg => rfl); (case hr => first | (go_simp; done) | (go_simp; rfl)); (case hp => exact Reps.none _ _); intro v8 w4 ho hb hg_ hnew_; clear hg_ hnew_; obtain ⟨A8, c8, e8⟩ := Kd.R_slice ho; subst e8; clear ho; (try clear hs0); (try clear hs1); (try clear hs2); have n_ := Aside0.mk (blk_below HX.out hb); clear HX; have HX := n_; clear n_; have n_ := Aside0.mk (below_step HB.out hb); clear HB; have HB := n_; clear n_; clear hb; have hs0 := (blk_cell HX.out 0).trans rfl; have hs1 := (blk_cell HX.out 1).trans rfl; have hs2 := (blk_cell HX.out 2).trans rfl) | (go_at_call 64; refine (spec_l09Go.does W0 H0 l0_2 A0_2 c0_2 none 0 [] HW.out.2 HH.out.2 HSz.out.2 HC.out (Nat.le_refl _) HEnv.out.1 HEnv.out.2 l0_2.length [] 0 301 A8 c8 (fun _ => False) _ HLen.out InPl.nil (by omega) (fnil_ _ _ _) (Nat.zero_le _) (HNo _).out (Kd.C_below HR.out HB.out)).mono ?_; rintro e w5 ⟨v9, rfl, ho, hb⟩; obtain ⟨A9, c9, e9⟩ := Kd.N_slice ho; subst e9; rw [HFl.out] at ho ⊢; have HN := Aside0.mk (Kd.N_mono (ok' := fun k_ => w.heap.size ≤ k_) ho (fun k hk => hk.elim False.elim (fun h => Nat.le_trans (below_size HB.out) h))); clear ho; (try clear hs0); (try clear hs1); (try clear hs2); have n_ := Aside0.mk (blk_below HX.out hb); clear HX; have HX := n_; clear n_; have n_ := Aside0.mk (below_step HB.out hb); clear HB; have HB := n_; clear n_; clear hb; have hs0 := (blk_cell HX.out 0).trans rfl; have hs1 := (blk_cell HX.out 1).trans rfl; have hs2 := (blk_cell HX.out 2).trans rfl))
      go_ret2
      exact ⟨_, rfl, Kd.N_V HN.out, HB.out⟩
-- impl.FleetList$1, by hand: it appends a fleet. (for 67 65)
-- EachOk Frame FrameX Clear fleets_in placeOf_len fleets_len
set_option maxHeartbeats 4000000 in
set_option maxRecDepth 100000 in
theorem list_call (w0 : World) (g6 c cu : Nat) (A Au : Option Addr) (rows : List (List Int)) (list : List Int) (P : Nat → Prop) (W : World) (hlen : (rows.length + 1) * 24 ≤ 140737488355328) (hX : W.heap[g6]? = some (.cells #[.slice Au rows.length cu] 42 (0, 0))) (hS : Kd.S (Kd.slice 2 (Kd.int .i64)) 22 W w0.heap.size P (.slice Au rows.length cu) rows) (hA : Kd.R (Kd.int .i64) 2 W w0.heap.size (fun _ => True) (.slice A list.length c) list)
    (hnP : ∀ k, some k = (Value.slice A list.length c).ownBlock → ¬ P k) (hB : Below w0.heap.size w0 W) (hg6 : w0.heap.size ≤ g6) (hP6 : ¬ P g6) :
    Calls Try.prog 67 #[.slice A list.length c, .pointer (some ⟨g6, 0, none⟩)] W fun e w' => e = .returned (.tuple #[]) ∧ ∃ A6 c6, w'.heap[g6]? = some (.cells #[.slice A6 (rows ++ [list]).length c6] 42 (0, 0)) ∧ Kd.S (Kd.slice 2 (Kd.int .i64)) 22 w' w0.heap.size (fun k => ((P k ∨ some k = (Value.slice A list.length c).ownBlock ∨ W.heap.size ≤ k) ∧ k ≠ g6) ∧ k < w'.heap.size) (.slice A6 (rows ++ [list]).length c6) (rows ++ [list]) ∧ Below w0.heap.size w0 w' ∧ FrameX (fun k => some k = (Value.slice A list.length c).ownBlock) (fun k => k = g6 ∨ P k) (fun k => k = g6 ∨ ((P k ∨ some k = (Value.slice A list.length c).ownBlock ∨ W.heap.size ≤ k) ∧ k ≠ g6) ∧ k < w'.heap.size) W w' := by
  have hx := (blk_cell hX 0).trans rfl
  have HNP := Aside0.mk hnP
  have HLen := Aside0.mk hlen
  have HG6 := Aside0.mk hg6
  have HOWN := Aside0.mk (fun k (hk : (Value.slice Au rows.length cu).ownBlock = some k) => show P k from (Kd.S_R hS).1 k hk)
  clear hnP hlen hg6
  obtain ⟨rows2, hr2⟩ : ∃ r, rows ++ [list] = r := ⟨_, rfl⟩
  rw [hr2]
  have HR2 := Aside0.mk hr2
  clear hr2
  have HS := Aside0.mk hS
  have HA := Aside0.mk hA
  have HX := Aside0.mk hX
  have HB := Aside0.mk hB
  clear hS hA hX hB
  go_enter Try.func67, Try.ntmps67
  go_wp2_with (first | ((with_reducible refine gate_builtin (b := .append) (xs := #[.tmp 3, .tmp 5]) rfl ?_); at_builtin; refine Kd.S_append (Kd.slice 2 (Kd.int .i64)) (w0 := w0) w0.heap.size rfl (.tmp 3) (.tmp 5) 42 22 (.slice none 0 0) 24 rfl Try.underlying42 info22 rfl (by decide) (by omega) (.slice Au rows.length cu) rows list [.slice A list.length c] (fun k => P k ∨ some k = (Value.slice A list.length c).ownBlock ∨ W.heap.size ≤ k) (fun k_ => some k_ = (.slice A list.length c : Value).ownBlock) rfl rfl ?aP ?aQ ?aF ?aO ?aB ?aS ?aL ?_; (case aP => exact Kd.M_row (Kd.R_mono (Kd.R_tight rfl HA.out) (fun _ h_ => h_))); (case aQ => exact fun k_ e_ => ⟨.inr (.inl e_), fun e2_ => HNP.out k_ e_ (HOWN.out k_ e2_.symm)⟩); (case aF => exact fun k_ hk_ => .inr (.inr hk_)); (case aO => exact Kd.S_mono HS.out (fun k hk => ⟨.inl hk, fun e_ => HNP.out k e_ hk⟩)); (case aB => exact HB.out); (case aS => exact below_size HB.out); (case aL => exact HLen.out); intro v6 w2 ho hb hg hat; rw [HR2.out] at ho; obtain ⟨A6, c6, e6⟩ := Kd.S_slice ho; subst e6; have HS2 := Aside0.mk ho; have HB2 := Aside0.mk hb; have HX2 := Aside0.mk (blk_grown HX.out hg (Kd.S_ne HS.out HX.out (by decide))); have HG := Aside0.mk hg; clear ho hb hg hat hx; have hx6 := (blk_cell HX2.out 0).trans rfl; have hf6 := blk_frozen HX2.out 0) | ((with_reducible refine gate_store (t := 42) (p := 1) rfl ?_); refine store_event (t := 42) (p := 1) (v := .tmp 6) (w1 := (w2.setCell ⟨g6, 0, none⟩ (.slice A6 rows2.length c6))) ?hg ?ho ?hn ?hr ?_; (case ho => rfl); (case hg => rfl); (case hn => rfl); (case hr => first | (go_simp; done) | (go_simp; rfl)); intro w3 hw3; have HW3 := Aside0.mk hw3; clear hw3 hx6 hf6))
  go_end0
  have hs6 := Kd.S_far (p := ⟨g6, 0, none⟩) (Kd.S_types HS2.out HX2.out (by decide)) (fun _ hk => hk.2) (.slice A6 rows2.length c6)
  have hw := HW3.out
  have hsz : w3.heap.size = w2.heap.size := by rw [hw]; simp [World.setCell]
  have hgs : W.heap.size ≤ w2.heap.size := HG.out.size
  rw [← hw] at hs6
  refine ⟨rfl, A6, c6, by rw [hw]; exact blk_put HX2.out 0 _ rfl, Kd.S_mono (Kd.S_bound hs6) (fun k hk => ⟨hk.1, hk.2.2.1⟩), by rw [hw]; exact below_set HB2.out HG6.out, by rw [hw]; exact HB2.out.os.trans HB.out.os.symm, by rw [hw]; exact HB2.out.tape.trans HB.out.tape.symm, by rw [hw]; exact HB2.out.output.trans HB.out.output.symm, by omega, fun k hk hn => ?_, fun k hk => ?_⟩
  · rw [hw, Below.heap_setCell w2 ⟨g6, 0, none⟩ _ k (fun e => hn (.inl e))]
    exact HG.out.block k hk (fun e => hn (.inr (HOWN.out k e.symm)))
  · rcases hk with rfl | ⟨⟨hk | hk | hk, _⟩, _⟩
    · exact .inl (.inl rfl)
    · exact .inl (.inr hk)
    · exact .inr (.inr hk)
    · exact .inr (.inl hk)
def ListI (w0 : World) (g6 : Nat) (fleets : List (List Int)) (i : Nat) (M : Nat → Prop) (W : World) : Prop :=
  ∃ (P : Nat → Prop) (Au : Option Addr) (cu : Nat), M = (fun k => k = g6 ∨ P k) ∧ (∀ k, P k → k < W.heap.size ∧ k ≠ g6) ∧ W.heap[g6]? = some (.cells #[.slice Au (fleets.take i).length cu] 42 (0, 0)) ∧ Kd.S (Kd.slice 2 (Kd.int .i64)) 22 W w0.heap.size P (.slice Au (fleets.take i).length cu) (fleets.take i) ∧ Below w0.heap.size w0 W
theorem list_ok {w0 : World} {g6 : Nat} {fleets : List (List Int)} (hf : fleets.length ≤ 1000000) (hne : ∀ fl ∈ fleets, 0 < fl.length) (hg6 : w0.heap.size ≤ g6) : EachOk w0.heap.size 67 #[.pointer (some ⟨g6, 0, none⟩)] fleets (ListI w0 g6 fleets) where
  stay := fun i M W W' h hb => by
    obtain ⟨P, Au, cu, hM, hP, hX, hS, hB⟩ := h
    exact ⟨P, Au, cu, hM, fun k hk => ⟨Nat.lt_of_lt_of_le (hP k hk).1 hb.size, (hP k hk).2⟩, blk_below hX hb, Kd.S_below hS hb, below_step hB hb⟩
  own := fun i M W h k hk => by
    obtain ⟨P, Au, cu, hM, hP, hX, _, _⟩ := h
    rw [hM] at hk
    rcases hk with rfl | hk
    · exact blk_lt hX
    · exact (hP k hk).1
  call := fun i M W A c list h hl hcl hlc hR => by
    obtain ⟨P, Au, cu, hM, hP, hX, hS, hB⟩ := h
    obtain ⟨hi, he⟩ := List.getElem?_eq_some_iff.1 hl
    have h0 := hne list (by rw [← he]; exact List.getElem_mem hi)
    have hnP : ∀ k, some k = (Value.slice A list.length c).ownBlock → ¬ P k := fun k hk hPk => by
      cases A with
      | none => simp [Value.ownBlock] at hk
      | some a =>
        have e : k = a.block := by simpa [Value.ownBlock] using hk
        subst e
        exact (hcl.2 h0 a rfl).2 (by rw [hM]; exact .inr hPk)
    have hlen : ((fleets.take i).length + 1) * 24 ≤ 140737488355328 := by rw [List.length_take]; omega
    refine (list_call w0 g6 c cu A Au (fleets.take i) list P W hlen hX hS hR hnP hB hg6 (fun h => (hP g6 h).2 rfl)).mono ?_
    rintro e w' ⟨rfl, A6, c6, h1, h2, h3, h4⟩
    have et : fleets.take i ++ [list] = fleets.take (i + 1) := by rw [List.take_succ_eq_append_getElem hi, he]
    rw [et] at h1 h2
    rw [hM]
    exact ⟨rfl, _, ⟨_, A6, c6, rfl, fun k hk => ⟨hk.2, hk.1.2⟩, h1, h2, h3⟩, h4⟩
theorem list_each (W0 H0 : Nat) (ships : List Int) (A2 : Option Addr) (c2 : Nat) (hw : 1 ≤ W0 ∧ W0 ≤ 5) (hh : 1 ≤ H0 ∧ H0 ≤ 5) (hsz : 1 ≤ ships.length ∧ ships.length ≤ 3) (hsin : ∀ j : Nat, j < ships.length → inW (rd ships (j : Int)) 1 5 = true) (hsc : ships.length ≤ c2)
    {w W : World} {g6 : Nat} {A6 : Option Addr} {c6 : Nat} {ok : Nat → Prop} (hg6 : w.heap.size ≤ g6) (hR : Kd.C (Kd.int .i64) w A2 ships.length ships) (hX : W.heap[g6]? = some (.cells #[.slice A6 0 c6] 42 (0, 0))) (hS : Kd.S (Kd.slice 2 (Kd.int .i64)) 22 W w.heap.size (fun k => ok k ∧ k ≠ g6) (.slice A6 0 c6) []) (hB : Below w.heap.size w W) :
    Calls Try.prog 65 #[.agg #[.int .i64 (W0 : Int), .int .i64 (H0 : Int), .slice A2 ships.length c2], .func (.func 67) #[] #[.pointer (some ⟨g6, 0, none⟩)]] W fun e w' => e = .returned (.tuple #[]) ∧ ∃ A7 c7, w'.heap[g6]? = some (.cells #[.slice A7 (fleetsFrom W0 H0 ships ships.length []).length c7] 42 (0, 0)) ∧ Kd.S (Kd.slice 2 (Kd.int .i64)) 22 w' w.heap.size (fun _ => True) (.slice A7 (fleetsFrom W0 H0 ships ships.length []).length c7) (fleetsFrom W0 H0 ships ships.length []) ∧ Below w.heap.size w w' := by
  have eg67 : ∀ args w, (callFunc 67 args).run Try.prog w = .ok (.enter 67 args) w := enters_of Try.func67 (by kernel_rfl) rfl
  have hpl : ∀ j, (placeOf W0 H0 ships j).length ≤ 100 := fun j => placeOf_len hw.2 hh.2 ships j
  have hfl : (fleetsFrom W0 H0 ships ships.length []).length ≤ 1000000 := by
    refine Nat.le_trans (fleets_len W0 H0 ships hpl ships.length []) ?_
    exact Nat.le_trans (Nat.pow_le_pow_right (by omega) hsz.2) (by simp)
  have hne : ∀ fl ∈ fleetsFrom W0 H0 ships ships.length [], 0 < fl.length := fun fl h => by
    have := (fleets_in ships.length [] InPl.nil (by simp) fl h).2
    omega
  have hS2 := Kd.S_bound hS
  have hMb : ∀ k, (k = g6 ∨ ((ok k ∧ k ≠ g6) ∧ w.heap.size ≤ k ∧ k < W.heap.size ∧ ∃ q, q ∈ 22 :: (Kd.slice 2 (Kd.int .i64)).E ∧ ∃ cells, W.heap[k]? = some (.cells cells q (0, 0)))) → w.heap.size ≤ k := fun k hk => by
    rcases hk with rfl | hk
    · exact hg6
    · exact hk.2.1
  have hclr : Clear (fun k => k = g6 ∨ ((ok k ∧ k ≠ g6) ∧ w.heap.size ≤ k ∧ k < W.heap.size ∧ ∃ q, q ∈ 22 :: (Kd.slice 2 (Kd.int .i64)).E ∧ ∃ cells, W.heap[k]? = some (.cells cells q (0, 0)))) W A2 ships := by
    refine ⟨Kd.C_below hR hB, fun h0 a ha => ?_⟩
    subst ha
    obtain ⟨b, e, hcb⟩ := Kd.at_int hR 0 (by omega) (by omega)
    injection e with e
    subst e
    have h1 := World.block_lt_of_cell? _ _ hcb
    rw [add_block] at h1
    exact ⟨Nat.lt_of_lt_of_le h1 hB.size, fun h => by have := hMb _ h; omega⟩
  refine (impl_Sea_eachFleet.does W0 H0 ships A2 c2 67 #[.pointer (some ⟨g6, 0, none⟩)] (ListI w g6 (fleetsFrom W0 H0 ships ships.length [])) w.heap.size eg67 (list_ok hfl hne hg6) hw hh hsz hsin hsc hpl W hB.size _ ⟨_, A6, c6, rfl, fun k hk => ⟨hk.2.2.1, hk.1.2⟩, hX, hS2, hB⟩ hclr).mono ?_
  rintro e w' ⟨rfl, M', ⟨P, Au, cu, _, _, h1, h2, h3⟩, _⟩
  rw [List.take_length] at h1 h2
  exact ⟨rfl, Au, cu, h1, Kd.S_mono h2 (fun _ _ => trivial), h3⟩
/-! ### impl_FleetList: function 30 -/
-- EXTERNAL: by hand
-- impl_CountFleets impl_Sea_eachFleet
-- EachOk seaV_nat sea_ships list_each fleetsOf
def impl_FleetList.f (k : Nat) (a0_0 a0_1 : Int) (l0_2 : List Int) : Option (List (List Int) × Int) := (impl_CountFleets.f k a0_0 a0_1 l0_2).bind fun r => if r.2 = 0 then (if r.1 > 300 then some ([], 3) else (if seaV a0_0 a0_1 l0_2 = true then some (fleetsOf a0_0 a0_1 l0_2, 0) else none)) else some ([], r.2)
set_option maxHeartbeats 4000000 in
set_option maxRecDepth 100000 in
theorem impl_FleetList.calls (k : Nat) (a0_0 a0_1 : Int) (A0_2 : Option Addr) (c0_2 : Nat) (l0_2 : List Int) (r1 : List (List Int)) (r2 : Int) (w : World) (hr0_2 : Kd.C (Kd.int .i64) w A0_2 l0_2.length l0_2) (hc0_2 : l0_2.length ≤ c0_2) (h : impl_FleetList.f k a0_0 a0_1 l0_2 = some (r1, r2)) :
    Calls Try.prog 30 #[.agg #[.int .i64 a0_0, .int .i64 a0_1, .slice A0_2 l0_2.length c0_2]] w fun e w' => ∃ v0_ : Value, e = .returned (.tuple #[v0_, .int .i64 r2]) ∧ Kd.S (Kd.slice 2 (Kd.int .i64)) 22 w' w.heap.size (fun _ => True) v0_ r1 ∧ Below w.heap.size w w' := by
  unfold impl_FleetList.f at h
  obtain ⟨⟨n, cd⟩, hb0, h⟩ := Option.bind_eq_some_iff.1 h
  have HCf := Aside0.mk hb0
  have HR := Aside0.mk hr0_2
  have HC := Aside0.mk hc0_2
  have hu28 := Try.underlying28
  clear hr0_2 hc0_2 hb0
  by_cases hc : cd = 0
  · rw [if_pos hc] at h
    have e1 : (cd == 0) = true := beq_iff_eq.mpr hc
    have e2 : (cd != 0) = false := bne_eq_false_iff_eq.mpr hc
    by_cases hn : n > 300
    · rw [if_pos hn] at h
      simp only [Option.some.injEq, Prod.mk.injEq] at h
      obtain ⟨rfl, rfl⟩ := h
      have e3 := decide_eq_true hn
      have e4 := decide_eq_true (show 300 < n from hn)
      clear hc hn
      go_enter Try.func30, Try.ntmps30
      go_wp2_with (first | ((with_reducible refine gate_dst (N := 1) rfl ?_); refine box_event ?hg (N := 1) ?hd (cs := #[.int .i64 a0_0, .int .i64 a0_1, .slice A0_2 l0_2.length c0_2]) (t := 28) ?hr ?_; (case hd => rfl); (case hg => rfl); (case hr => first | (go_simp; done) | (go_simp; rfl)); intro g1 hg1 w1 hbox hb; have HX := Aside0.mk hbox; have HB := Aside0.mk hb; clear hbox hb hg1; have hs0 := (blk_cell HX.out 0).trans rfl; have hs1 := (blk_cell HX.out 1).trans rfl; have hs2 := (blk_cell HX.out 2).trans rfl) | (go_at_call 28; refine (impl_CountFleets.calls k a0_0 a0_1 A0_2 c0_2 l0_2 _ _ _ (Kd.C_below HR.out HB.out) HC.out HCf.out).mono ?_; rintro e w2 ⟨rfl, hb⟩; (try clear hs0); (try clear hs1); (try clear hs2); have n_ := Aside0.mk (blk_below HX.out hb); clear HX; have HX := n_; clear n_; have n_ := Aside0.mk (below_step HB.out hb); clear HB; have HB := n_; clear n_; clear hb; have hs0 := (blk_cell HX.out 0).trans rfl; have hs1 := (blk_cell HX.out 1).trans rfl; have hs2 := (blk_cell HX.out 2).trans rfl))
      (try go_quiet (fail))
      (try go_wp2_with fail)
      go_ret2
      exact ⟨_, rfl, Kd.S_nil _ _ _ _ _, HB.out⟩
    · rw [if_neg hn] at h
      split at h
      case isFalse => cases h
      rename_i hs
      simp only [Option.some.injEq, Prod.mk.injEq] at h
      obtain ⟨hr1, rfl⟩ := h
      obtain ⟨⟨W0, rfl, hw1, hw5⟩, ⟨H0, rfl, hh1, hh5⟩, hs1, hs3⟩ := seaV_nat hs
      have HW := Aside0.mk (And.intro hw1 hw5)
      have HH := Aside0.mk (And.intro hh1 hh5)
      have HSz := Aside0.mk (And.intro hs1 hs3)
      have HSI := Aside0.mk (sea_ships hs)
      unfold fleetsOf at hr1
      simp only [Int.toNat_natCast] at hr1
      have HFl := Aside0.mk hr1
      have e3 := decide_eq_false hn
      have e4 := decide_eq_false (show ¬ 300 < n from hn)
      clear hs hw1 hw5 hh1 hh5 hs1 hs3 hr1 hc hn
      go_enter Try.func30, Try.ntmps30
      go_wp2_with (first | ((with_reducible refine gate_dst (N := 1) rfl ?_); refine box_event ?hg (N := 1) ?hd (cs := #[.int .i64 (W0 : Int), .int .i64 (H0 : Int), .slice A0_2 l0_2.length c0_2]) (t := 28) ?hr ?_; (case hd => rfl); (case hg => rfl); (case hr => first | (go_simp; done) | (go_simp; rfl)); intro g1 hg1 w1 hbox hb; have HX := Aside0.mk hbox; have HB := Aside0.mk hb; clear hbox hb hg1; have hs0 := (blk_cell HX.out 0).trans rfl; have hs1 := (blk_cell HX.out 1).trans rfl; have hs2 := (blk_cell HX.out 2).trans rfl) | (go_at_call 28; refine (impl_CountFleets.calls k (W0 : Int) (H0 : Int) A0_2 c0_2 l0_2 _ _ _ (Kd.C_below HR.out HB.out) HC.out HCf.out).mono ?_; rintro e w2 ⟨rfl, hb⟩; (try clear hs0); (try clear hs1); (try clear hs2); have n_ := Aside0.mk (blk_below HX.out hb); clear HX; have HX := n_; clear n_; have n_ := Aside0.mk (below_step HB.out hb); clear HB; have HB := n_; clear n_; clear hb; have hs0 := (blk_cell HX.out 0).trans rfl; have hs1 := (blk_cell HX.out 1).trans rfl; have hs2 := (blk_cell HX.out 2).trans rfl) | ((with_reducible refine gate_dst (N := 21) rfl ?_); refine Kd.S_lit (Kd.slice 2 (Kd.int .i64)) _ 22 ?hg (N := 21) ?hd (xs := ([] : List (List Int))) (inner := []) (ok := fun _ => True) (okp := fun _ => True) ?hr ?hp (fun _ hk => hk) trivial (Below.refl _ _) (Nat.le_refl _) (by simp) ?_; (case hd => rfl); (case hg => rfl); (case hr => first | (go_simp; done) | (go_simp; rfl)); (case hp => exact (Reps.none _ _)); intro v21 w3 ho hb hg_ hnew_; clear hg_ hnew_; obtain ⟨A6, c6, e6⟩ := Kd.S_slice ho; subst e6; rw [show (([] : List (List Int)).length) = 0 from rfl] at ho; have HS := Aside0.mk (Kd.S_lower ho (below_size HB.out)); clear ho; (try clear hs0); (try clear hs1); (try clear hs2); have n_ := Aside0.mk (blk_below HX.out hb); clear HX; have HX := n_; clear n_; have n_ := Aside0.mk (below_step HB.out hb); clear HB; have HB := n_; clear n_; clear hb; have hs0 := (blk_cell HX.out 0).trans rfl; have hs1 := (blk_cell HX.out 1).trans rfl; have hs2 := (blk_cell HX.out 2).trans rfl) | ((with_reducible refine gate_dst (N := 6) rfl ?_); refine box_event ?hg (N := 6) ?hd (cs := #[.slice none 0 0]) (t := 42) ?hr ?_; (case hd => rfl); (case hg => rfl); (case hr => first | (go_simp; done) | (go_simp; rfl)); intro g6 hg6 w4 hbox hb; have HY := Aside0.mk hbox; have HG6 := Aside0.mk (show w.heap.size ≤ g6 ∧ g1 ≠ g6 by have := below_size HB.out; have := blk_lt HX.out; omega); have n_ := Aside0.mk (Kd.S_below (Kd.S_elderB HS.out g6 (by omega)) hb); clear HS; have HS := n_; clear n_; (try clear hs0); (try clear hs1); (try clear hs2); have n_ := Aside0.mk (blk_below HX.out hb); clear HX; have HX := n_; clear n_; have n_ := Aside0.mk (below_step HB.out hb); clear HB; have HB := n_; clear n_; clear hb hbox hg6; have hs0 := (blk_cell HX.out 0).trans rfl; have hs1 := (blk_cell HX.out 1).trans rfl; have hs2 := (blk_cell HX.out 2).trans rfl; have hz6 := (blk_cell HY.out 0).trans rfl; have hfz6 := blk_frozen HY.out 0) | ((with_reducible refine gate_store (t := 42) (p := 6) rfl ?_); refine store_event (t := 42) (p := 6) (v := .tmp 21) (w1 := (w4.setCell ⟨g6, 0, none⟩ (.slice A6 0 c6))) ?hg ?ho ?hn ?hr ?_; (case ho => rfl); (case hg => rfl); (case hn => rfl); (case hr => first | (go_simp; done) | (go_simp; rfl)); intro w5 hw5; have tX_ := blk_far (p := ⟨g6, 0, none⟩) HX.out HG6.out.2 (.slice A6 0 c6); have tY_ := blk_put HY.out 0 (.slice A6 0 c6) rfl; have tS_ := Kd.S_far (p := ⟨g6, 0, none⟩) HS.out (fun _ hk => hk.2) (.slice A6 0 c6); have tB_ : Below w.heap.size w (w4.setCell ⟨g6, 0, none⟩ (.slice A6 0 c6)) := below_set HB.out HG6.out.1; rw [← hw5] at tX_ tY_ tS_ tB_; clear hz6 hfz6; (try clear hs0); (try clear hs1); (try clear hs2); clear HX HY HS HB; have HX := Aside0.mk tX_; have HY := Aside0.mk tY_; have HS := Aside0.mk tS_; have HB := Aside0.mk tB_; clear hw5 tX_ tY_ tS_ tB_; have hs0 := (blk_cell HX.out 0).trans rfl; have hs1 := (blk_cell HX.out 1).trans rfl; have hs2 := (blk_cell HX.out 2).trans rfl) | (go_at_call 65; refine (list_each W0 H0 l0_2 A0_2 c0_2 HW.out HH.out HSz.out HSI.out HC.out HG6.out.1 HR.out HY.out HS.out HB.out).mono ?_; rintro e w6 ⟨rfl, A7, c7, h1, h2, h3⟩; rw [HFl.out] at h1 h2; (try clear hs0); (try clear hs1); (try clear hs2); clear HX HY HS HB; have HY := Aside0.mk h1; have HS := Aside0.mk h2; have HB := Aside0.mk h3; clear h1 h2 h3; have hn6 := (blk_cell HY.out 0).trans rfl))
      go_ret2
      exact ⟨_, rfl, HS.out, HB.out⟩
  · rw [if_neg hc] at h
    simp only [Option.some.injEq, Prod.mk.injEq] at h
    obtain ⟨rfl, rfl⟩ := h
    have e1 : (cd == 0) = false := beq_eq_false_iff_ne.mpr hc
    have e2 : (cd != 0) = true := bne_iff_ne.mpr hc
    clear hc
    go_enter Try.func30, Try.ntmps30
    go_wp2_with (first | ((with_reducible refine gate_dst (N := 1) rfl ?_); refine box_event ?hg (N := 1) ?hd (cs := #[.int .i64 a0_0, .int .i64 a0_1, .slice A0_2 l0_2.length c0_2]) (t := 28) ?hr ?_; (case hd => rfl); (case hg => rfl); (case hr => first | (go_simp; done) | (go_simp; rfl)); intro g1 hg1 w1 hbox hb; have HX := Aside0.mk hbox; have HB := Aside0.mk hb; clear hbox hb hg1; have hs0 := (blk_cell HX.out 0).trans rfl; have hs1 := (blk_cell HX.out 1).trans rfl; have hs2 := (blk_cell HX.out 2).trans rfl) | (go_at_call 28; refine (impl_CountFleets.calls k a0_0 a0_1 A0_2 c0_2 l0_2 _ _ _ (Kd.C_below HR.out HB.out) HC.out HCf.out).mono ?_; rintro e w2 ⟨rfl, hb⟩; (try clear hs0); (try clear hs1); (try clear hs2); have n_ := Aside0.mk (blk_below HX.out hb); clear HX; have HX := n_; clear n_; have n_ := Aside0.mk (below_step HB.out hb); clear HB; have HB := n_; clear n_; clear hb; have hs0 := (blk_cell HX.out 0).trans rfl; have hs1 := (blk_cell HX.out 1).trans rfl; have hs2 := (blk_cell HX.out 2).trans rfl))
    (try go_quiet (fail))
    (try go_wp2_with fail)
    go_ret2
    exact ⟨_, rfl, Kd.S_nil _ _ _ _ _, HB.out⟩
/-! ### laws_eqInt64SS: function 31 -/
def laws_eqInt64SS.l0 : Nat → List (List Int) → List (List Int) → Int → Option (Bool)
 | 0, _, _, _ => none
 | k + 1, x0, x1, x5 => if x5 < (x0.length : Int) then (if 0 ≤ x5 then (if x5 < (x1.length : Int) then ((laws_eqInt64S.f k (rd_L3 x0 x5) (rd_L3 x1 x5)).bind fun t489 => (if t489 = true then (laws_eqInt64SS.l0 k x0 x1 (wrap64 (x5 + 1))) else (some false))) else (none)) else (none)) else (some true)
def laws_eqInt64SS.f (k : Nat) (l0 : List (List Int)) (l1 : List (List Int)) : Option (Bool) := if (l0.length : Int) = (l1.length : Int) then (laws_eqInt64SS.l0 k l0 l1 0) else (some false)
set_option maxHeartbeats 8000000 in
set_option maxRecDepth 100000 in
theorem laws_eqInt64SS.calls (k : Nat) (A0 : Option Addr) (c0 : Nat) (l0 : List (List Int)) (A1 : Option Addr) (c1 : Nat) (l1 : List (List Int)) (r : Bool) (w : World) (hr0 : Kd.C (Kd.slice 2 (Kd.int .i64)) w A0 l0.length l0) (hc0 : l0.length ≤ c0) (hr1 : Kd.C (Kd.slice 2 (Kd.int .i64)) w A1 l1.length l1) (hc1 : l1.length ≤ c1) (h : laws_eqInt64SS.f k l0 l1 = some r) :
  Calls Try.prog 31 #[.slice A0 l0.length c0, .slice A1 l1.length c1] w fun e w' => e = .returned (.bool r) ∧ Drawn0 w w' := by
 have HR0 := Aside0.mk hr0
 have HC0 := Aside0.mk hc0
 clear hr0 hc0
 have HR1 := Aside0.mk hr1
 have HC1 := Aside0.mk hc1
 clear hr1 hc1
 have H : (if (l0.length : Int) = (l1.length : Int) then (laws_eqInt64SS.l0 k l0 l1 0) else (some false)) = some r := h
 clear h
 by_cases c3 : (l0.length : Int) = (l1.length : Int)
 ·rw [if_pos c3] at H
  have c3b0 : ((l0.length : Int) == (l1.length : Int)) = true := beq_iff_eq.mpr c3
  have c3b1 : ((l0.length : Int) != (l1.length : Int)) = false := bne_eq_false_iff_eq.mpr c3
  have c3b2 : (l0.length == l1.length) = true := by first | simpa using c3 | (simp at c3 ⊢; omega)
  clear c3
  have H' := Aside0.mk H
  clear H
  go_enter Try.func31, Try.ntmps31
  go_wp2
  repeat (go_quiet (fail); try go_wp2)
  go_loopg [5] k (fun kq v5 w' => ∃ (x5_1 : Int), v5 = .int .i64 x5_1 ∧ Aside0 (laws_eqInt64SS.l0 kq l0 l1 x5_1 = some r) ∧ Aside0 (kq ≤ k) ∧ Drawn0 w w')
  case atStart => exact ⟨(0), (by first | rfl | (simp; done) | (simp [*]; done)), H', ⟨Nat.le_refl _⟩, by repeat (first | exact Drawn0.refl _ | apply Drawn0.step)⟩
  case round =>
   clear H'
   (try clear c1); (try clear p2); (try clear c3); (try clear c3b0); (try clear c3b1); (try clear c3b2)
   obtain ⟨x5_1, rfl, HA, HK1, ⟨m1, rfl⟩⟩ := hrel
   cases gk with
   | zero => exact absurd HA.out (by simp [laws_eqInt64SS.l0])
   | succ k1 =>
    have H := HA.out
    clear HA
    simp only [laws_eqInt64SS.l0] at H
    by_cases c4 : x5_1 < (l0.length : Int)
    ·rw [if_pos c4] at H
     have c4b0 : decide (x5_1 < (l0.length : Int)) = true := decide_eq_true c4
     clear c4
     by_cases c5 : 0 ≤ x5_1
     ·rw [if_pos c5] at H
      have c5b0 : decide (0 ≤ x5_1) = true := decide_eq_true c5
      clear c5
      by_cases c6 : x5_1 < (l1.length : Int)
      ·rw [if_pos c6] at H
       have c6b0 : decide (x5_1 < (l1.length : Int)) = true := decide_eq_true c6
       clear c6
       replace H := Option.bind_eq_some_iff.mp H
       obtain ⟨t489, A70, H⟩ := H
       replace H : (if t489 = true then (laws_eqInt64SS.l0 k1 l0 l1 (wrap64 (x5_1 + 1))) else (some false)) = some r := H
       have A7 := Aside0.mk A70
       clear A70
       by_cases c8 : t489 = true
       ·subst c8
        have H1 : (laws_eqInt64SS.l0 k1 l0 l1 (wrap64 (x5_1 + 1))) = some r := by rw [if_pos rfl] at H; exact H
        clear H
        have H := H1
        clear H1
        have H' := Aside0.mk H
        clear H
        have p487 : 0 ≤ (x5_1 : Int) := oda
        have q487 : x5_1 < (l0.length : Int) := oda
        obtain ⟨ad487, A487_0, c487_0, e487, hx487_0, hl487_0, hi487_0⟩ := at_L3 HR0.out x5_1 p487 q487
        cases e487
        have HR487_0 := Aside0.mk hi487_0
        have HC487_0 := Aside0.mk hl487_0
        clear hi487_0 hl487_0
        replace p487 := eq_true p487
        replace q487 := eq_true q487
        have p488 : 0 ≤ (x5_1 : Int) := oda
        have q488 : x5_1 < (l1.length : Int) := oda
        obtain ⟨ad488, A488_0, c488_0, e488, hx488_0, hl488_0, hi488_0⟩ := at_L3 HR1.out x5_1 p488 q488
        cases e488
        have HR488_0 := Aside0.mk hi488_0
        have HC488_0 := Aside0.mk hl488_0
        clear hi488_0 hl488_0
        replace p488 := eq_true p488
        replace q488 := eq_true q488
        go_wp2_with (first | (go_at_call 19; (with_reducible refine (laws_eqInt64S.calls k1 _ _ (rd_L3 l0 x5_1) _ _ (rd_L3 l1 x5_1) true _ ?side1 ?side2 ?side3 ?side4 A7.out).mono ?_); (case side1 => repeat (first | exact HR487_0.out | (with_reducible refine Kd.C_alloc ?_ _) | (with_reducible refine Kd.C_drewN ?_ _) | (with_reducible refine Kd.C_drew ?_))); (case side2 => exact HC487_0.out); (case side3 => repeat (first | exact HR488_0.out | (with_reducible refine Kd.C_alloc ?_ _) | (with_reducible refine Kd.C_drewN ?_ _) | (with_reducible refine Kd.C_drew ?_))); (case side4 => exact HC488_0.out); rintro e w' ⟨rfl, ⟨nd, rfl⟩⟩; (try first | exact ⟨rfl, _, World.drewN_drewN _ _ _⟩ | exact ⟨rfl, _, Eq.trans (World.drewN_drewN _ _ _) (congrArg (World.drewN _) (Nat.add_assoc _ _ _))⟩)))
        repeat (go_quiet (first | (go_at_call 19; (with_reducible refine (laws_eqInt64S.calls k1 _ _ (rd_L3 l0 x5_1) _ _ (rd_L3 l1 x5_1) true _ ?side1 ?side2 ?side3 ?side4 A7.out).mono ?_); (case side1 => repeat (first | exact HR487_0.out | (with_reducible refine Kd.C_alloc ?_ _) | (with_reducible refine Kd.C_drewN ?_ _) | (with_reducible refine Kd.C_drew ?_))); (case side2 => exact HC487_0.out); (case side3 => repeat (first | exact HR488_0.out | (with_reducible refine Kd.C_alloc ?_ _) | (with_reducible refine Kd.C_drewN ?_ _) | (with_reducible refine Kd.C_drew ?_))); (case side4 => exact HC488_0.out); rintro e w' ⟨rfl, ⟨nd, rfl⟩⟩; (try first | exact ⟨rfl, _, World.drewN_drewN _ _ _⟩ | exact ⟨rfl, _, Eq.trans (World.drewN_drewN _ _ _) (congrArg (World.drewN _) (Nat.add_assoc _ _ _))⟩))); try go_wp2_with (first | (go_at_call 19; (with_reducible refine (laws_eqInt64S.calls k1 _ _ (rd_L3 l0 x5_1) _ _ (rd_L3 l1 x5_1) true _ ?side1 ?side2 ?side3 ?side4 A7.out).mono ?_); (case side1 => repeat (first | exact HR487_0.out | (with_reducible refine Kd.C_alloc ?_ _) | (with_reducible refine Kd.C_drewN ?_ _) | (with_reducible refine Kd.C_drew ?_))); (case side2 => exact HC487_0.out); (case side3 => repeat (first | exact HR488_0.out | (with_reducible refine Kd.C_alloc ?_ _) | (with_reducible refine Kd.C_drewN ?_ _) | (with_reducible refine Kd.C_drew ?_))); (case side4 => exact HC488_0.out); rintro e w' ⟨rfl, ⟨nd, rfl⟩⟩; (try first | exact ⟨rfl, _, World.drewN_drewN _ _ _⟩ | exact ⟨rfl, _, Eq.trans (World.drewN_drewN _ _ _) (congrArg (World.drewN _) (Nat.add_assoc _ _ _))⟩))))
        go_roundg k1
        case measure => have := HK1.out; omega
        case rel => exact ⟨(wrap64 (x5_1 + 1)), (by first | rfl | (simp; done) | (simp [*]; done)), H', ⟨by have := HK1.out; omega⟩, by repeat (first | exact Drawn0.refl _ | apply Drawn0.step)⟩
       ·replace c8 := Bool.eq_false_iff.mpr c8
        subst c8
        have H1 : (some false) = some r := by rw [if_neg (show ¬ (false = true) by decide)] at H; exact H
        clear H
        have H := H1
        clear H1
        obtain rfl := Option.some.inj H
        have p487 : 0 ≤ (x5_1 : Int) := oda
        have q487 : x5_1 < (l0.length : Int) := oda
        obtain ⟨ad487, A487_0, c487_0, e487, hx487_0, hl487_0, hi487_0⟩ := at_L3 HR0.out x5_1 p487 q487
        cases e487
        have HR487_0 := Aside0.mk hi487_0
        have HC487_0 := Aside0.mk hl487_0
        clear hi487_0 hl487_0
        replace p487 := eq_true p487
        replace q487 := eq_true q487
        have p488 : 0 ≤ (x5_1 : Int) := oda
        have q488 : x5_1 < (l1.length : Int) := oda
        obtain ⟨ad488, A488_0, c488_0, e488, hx488_0, hl488_0, hi488_0⟩ := at_L3 HR1.out x5_1 p488 q488
        cases e488
        have HR488_0 := Aside0.mk hi488_0
        have HC488_0 := Aside0.mk hl488_0
        clear hi488_0 hl488_0
        replace p488 := eq_true p488
        replace q488 := eq_true q488
        go_wp2_with (first | (go_at_call 19; (with_reducible refine (laws_eqInt64S.calls k1 _ _ (rd_L3 l0 x5_1) _ _ (rd_L3 l1 x5_1) false _ ?side1 ?side2 ?side3 ?side4 A7.out).mono ?_); (case side1 => repeat (first | exact HR487_0.out | (with_reducible refine Kd.C_alloc ?_ _) | (with_reducible refine Kd.C_drewN ?_ _) | (with_reducible refine Kd.C_drew ?_))); (case side2 => exact HC487_0.out); (case side3 => repeat (first | exact HR488_0.out | (with_reducible refine Kd.C_alloc ?_ _) | (with_reducible refine Kd.C_drewN ?_ _) | (with_reducible refine Kd.C_drew ?_))); (case side4 => exact HC488_0.out); rintro e w' ⟨rfl, ⟨nd, rfl⟩⟩; (try first | exact ⟨rfl, _, World.drewN_drewN _ _ _⟩ | exact ⟨rfl, _, Eq.trans (World.drewN_drewN _ _ _) (congrArg (World.drewN _) (Nat.add_assoc _ _ _))⟩)))
        repeat (go_quiet (first | (go_at_call 19; (with_reducible refine (laws_eqInt64S.calls k1 _ _ (rd_L3 l0 x5_1) _ _ (rd_L3 l1 x5_1) false _ ?side1 ?side2 ?side3 ?side4 A7.out).mono ?_); (case side1 => repeat (first | exact HR487_0.out | (with_reducible refine Kd.C_alloc ?_ _) | (with_reducible refine Kd.C_drewN ?_ _) | (with_reducible refine Kd.C_drew ?_))); (case side2 => exact HC487_0.out); (case side3 => repeat (first | exact HR488_0.out | (with_reducible refine Kd.C_alloc ?_ _) | (with_reducible refine Kd.C_drewN ?_ _) | (with_reducible refine Kd.C_drew ?_))); (case side4 => exact HC488_0.out); rintro e w' ⟨rfl, ⟨nd, rfl⟩⟩; (try first | exact ⟨rfl, _, World.drewN_drewN _ _ _⟩ | exact ⟨rfl, _, Eq.trans (World.drewN_drewN _ _ _) (congrArg (World.drewN _) (Nat.add_assoc _ _ _))⟩))); try go_wp2_with (first | (go_at_call 19; (with_reducible refine (laws_eqInt64S.calls k1 _ _ (rd_L3 l0 x5_1) _ _ (rd_L3 l1 x5_1) false _ ?side1 ?side2 ?side3 ?side4 A7.out).mono ?_); (case side1 => repeat (first | exact HR487_0.out | (with_reducible refine Kd.C_alloc ?_ _) | (with_reducible refine Kd.C_drewN ?_ _) | (with_reducible refine Kd.C_drew ?_))); (case side2 => exact HC487_0.out); (case side3 => repeat (first | exact HR488_0.out | (with_reducible refine Kd.C_alloc ?_ _) | (with_reducible refine Kd.C_drewN ?_ _) | (with_reducible refine Kd.C_drew ?_))); (case side4 => exact HC488_0.out); rintro e w' ⟨rfl, ⟨nd, rfl⟩⟩; (try first | exact ⟨rfl, _, World.drewN_drewN _ _ _⟩ | exact ⟨rfl, _, Eq.trans (World.drewN_drewN _ _ _) (congrArg (World.drewN _) (Nat.add_assoc _ _ _))⟩))))
        go_ret
        exact ⟨by first | rfl | (simp; done) | (simp [*]; done), by repeat (first | exact Drawn0.refl _ | apply Drawn0.step)⟩
      ·rw [if_neg c6] at H
       exact absurd H (by simp)
     ·rw [if_neg c5] at H
      exact absurd H (by simp)
    ·rw [if_neg c4] at H
     have c4b0 : decide (x5_1 < (l0.length : Int)) = false := decide_eq_false c4
     clear c4
     obtain rfl := Option.some.inj H
     go_wp2
     repeat (go_quiet (fail); try go_wp2)
     go_ret
     exact ⟨by first | rfl | (simp; done) | (simp [*]; done), by repeat (first | exact Drawn0.refl _ | apply Drawn0.step)⟩
 ·rw [if_neg c3] at H
  have c3b0 : ((l0.length : Int) == (l1.length : Int)) = false := beq_eq_false_iff_ne.mpr c3
  have c3b1 : ((l0.length : Int) != (l1.length : Int)) = true := bne_iff_ne.mpr c3
  have c3b2 : (l0.length == l1.length) = false := by first | simpa using c3 | (simp at c3 ⊢; omega)
  obtain rfl := Option.some.inj H
  go_enter Try.func31, Try.ntmps31
  go_wp2
  repeat (go_quiet (fail); try go_wp2)
  go_ret
  exact ⟨by first | rfl | (simp; done) | (simp [*]; done), by repeat (first | exact Drawn0.refl _ | apply Drawn0.step)⟩
-- Rows of rows of whole numbers that are handed to what writes them.
/-- The blocks that a row of rows (elements of type e) may lead to. -/
def ownS {α : Type} (d : Kd α) (e : Nat) (w : World) (ok : Nat → Prop) (k : Nat) : Prop := ok k ∧ k < w.heap.size ∧ ∃ q, q ∈ e :: d.E ∧ ∃ cells, w.heap[k]? = some (.cells cells q (0, 0))
theorem S_ownS {α : Type} {d : Kd α} {e base : Nat} {w : World} {ok : Nat → Prop} {v : Value} {xs : List α} (h : Kd.S d e w base ok v xs) : Kd.S d e w base (ownS d e w ok) v xs := Kd.S_mono (Kd.S_bound h) (fun _ hk => ⟨hk.1, hk.2.2.1, hk.2.2.2⟩)
theorem ownS_not {α : Type} {d : Kd α} {e k t : Nat} {w : World} {ok : Nat → Prop} {cs : Array Value} {fr : Nat × Nat} (h : ownS d e w ok k) (hb : w.heap[k]? = some (.cells cs t fr)) (ht : ∀ q, q ∈ e :: d.E → q ≠ t) : False := by
  obtain ⟨_, _, q, hq, cells, hc⟩ := h
  rw [hb] at hc
  injection hc with hc
  injection hc with _ hc
  exact ht q hq hc.symm
theorem S_ltN {α : Type} {d : Kd α} {e base n : Nat} {w : World} {ok : Nat → Prop} {v : Value} {xs : List α} (h : Kd.S d e w base ok v xs) (hn : n = w.heap.size) : Kd.S d e w base (fun k => ok k ∧ k < n) v xs := Kd.S_mono (Kd.S_bound h) (fun _ hk => ⟨hk.1, by rw [hn]; exact hk.2.2.1⟩)
theorem V_ltN {α : Type} {d : Kd α} {e base n : Nat} {w : World} {ok : Nat → Prop} {v : Value} {xs : List α} (h : Kd.V d e w base ok v xs) (hn : n = w.heap.size) : Kd.V d e w base (fun k => ok k ∧ k < n) v xs := Kd.V_mono (Kd.V_bound h) (fun _ hk => ⟨hk.1, by rw [hn]; exact hk.2⟩)
theorem S_geN {α : Type} {d : Kd α} {e n base : Nat} {w : World} {ok : Nat → Prop} {v : Value} {xs : List α} (h : Kd.S d e w base ok v xs) (hn : n = base) : Kd.S d e w base (fun k => ok k ∧ n ≤ k) v xs := Kd.S_mono (Kd.S_bound h) (fun _ hk => ⟨hk.1, by rw [hn]; exact hk.2.1⟩)
/-- Row i of a row of rows, lent to what writes it. -/
theorem S_lend_row {T e base g n cap : Nat} {W : World} {ok : Nat → Prop} {xs : List (List Int)} {i : Int} (h : Kd.S (Kd.slice T (Kd.int .i64)) e W base ok (.slice (some ⟨g, 0, none⟩) n cap) xs) (h0 : 0 ≤ i) (h1 : i < n) :
    ∃ (oki : Nat → Prop) (u : Value), Kd.R (Kd.int .i64) T W base oki u (xs.getD i.toNat []) ∧ W.cell? ⟨g, i.toNat, none⟩ = some u ∧ W.frozen? ⟨g, i.toNat, none⟩ = false ∧ (∀ k, oki k → ok k) ∧
      ∀ {W1 : World} {ok1 : Nat → Prop} {x' : List Int}, Kept W W1 oki → Kd.R (Kd.int .i64) T W1 base ok1 u x' → Kd.S (Kd.slice T (Kd.int .i64)) e W1 base ok (.slice (some ⟨g, 0, none⟩) n cap) (xs.set i.toNat x') := by
  obtain ⟨oki, c, hcl, hM, hcc, hfr, hoki, hH⟩ := Kd.S_elem h [] i h0 h1
  obtain ⟨u, rfl, hR⟩ := hM
  have hz : (Kd.slice T (Kd.int .i64)).sz = 1 := rfl
  refine ⟨oki, u, hR, ?_, ?_, fun k hk => (hoki k hk).1, fun hk h1 => ?_⟩
  · have := hcc 0 u rfl
    rw [hz, Nat.mul_one, Nat.add_zero] at this
    exact this
  · have := hfr 0
    rw [hz, Nat.mul_one, Nat.add_zero] at this
    exact this
  · exact Kd.H_back (Kd.H_step hH (fun k ho hn hlt => hk.2 k hlt hn)) (Kd.M_row (Kd.R_reok rfl h1 (fun k e_ => hR.1 k e_))) (fun _ hk => hk)
theorem nq_of {W w1 : World} (_hb : Below W.heap.size W w1) : ∃ n : Nat, n = W.heap.size := ⟨_, rfl⟩
/-! ### laws_markInt64SS: function 32 -/
-- EXTERNAL: by hand
-- laws_markInt64S
def laws_markInt64SS.l0 : Nat → List (List Int) → Int → Int → Option (Int × List (List Int))
  | 0, _, _, _ => none
  | k + 1, xs, m, i => if i < (xs.length : Int) then (if 0 ≤ i then (laws_markInt64S.f k (xs.getD i.toNat []) m).bind fun r => laws_markInt64SS.l0 k (xs.set i.toNat r.2) r.1 (wrap64 (i + 1)) else none) else some (m, xs)
def laws_markInt64SS.f (k : Nat) (l0 : List (List Int)) (a1 : Int) : Option (Int × List (List Int)) := laws_markInt64SS.l0 k l0 a1 0
set_option maxHeartbeats 8000000 in
set_option maxRecDepth 100000 in
theorem laws_markInt64SS.calls (k : Nat) (P0_ : Nat → Prop) (u9000_ : Value) (l0 : List (List Int)) (a1 : Int) (r1 : Int) (r2 : List (List Int)) (w0 w : World) (hB : Below w0.heap.size w0 w) (ho0 : Kd.S (Kd.slice 2 (Kd.int .i64)) 22 w w0.heap.size P0_ u9000_ l0) (h : laws_markInt64SS.f k l0 a1 = some (r1, r2)) :
    Calls Try.prog 32 #[u9000_, .int .i64 a1] w fun e w' => e = .returned (.int .i64 r1) ∧ Kd.S (Kd.slice 2 (Kd.int .i64)) 22 w' w0.heap.size P0_ u9000_ r2 ∧ Below w0.heap.size w0 w' ∧ Kept w w' (fun k_ => P0_ k_) := by
  have HB := Aside0.mk hB
  have HO := Aside0.mk ho0
  have HK := Aside0.mk (Kept.refl w (fun k_ => P0_ k_))
  have H' := Aside0.mk (show laws_markInt64SS.l0 k l0 a1 0 = some (r1, r2) from h)
  clear hB ho0 h
  go_enter Try.func32, Try.ntmps32
  go_wp2
  go_loopg [1, 5] k (fun kq v1 v5 w' => ∃ (xs : List (List Int)) (m i : Int), v1 = .int .i64 m ∧ v5 = .int .i64 i ∧ Aside0 (laws_markInt64SS.l0 kq xs m i = some (r1, r2)) ∧ Aside0 (kq ≤ k) ∧ Aside0 (Kd.S (Kd.slice 2 (Kd.int .i64)) 22 w' w0.heap.size P0_ u9000_ xs) ∧ Aside0 (Kept w w' (fun k_ => P0_ k_)) ∧ Aside0 (Below w0.heap.size w0 w'))
  case atStart => exact ⟨l0, a1, 0, rfl, rfl, H', ⟨Nat.le_refl _⟩, HO, HK, HB⟩
  case round =>
    clear H' HO HK HB
    obtain ⟨xs, m, i, rfl, rfl, HA, HK1, HO, HK, HB⟩ := hrel
    cases gk with
    | zero => exact absurd HA.out (by simp [laws_markInt64SS.l0])
    | succ k1 =>
      have H := HA.out
      clear HA
      simp only [laws_markInt64SS.l0] at H
      by_cases c3 : i < (xs.length : Int)
      · rw [if_pos c3] at H
        by_cases c4 : 0 ≤ i
        · rw [if_pos c4] at H
          obtain ⟨⟨m2, x2⟩, A1, H⟩ := Option.bind_eq_some_iff.mp H
          replace H : laws_markInt64SS.l0 k1 (xs.set i.toNat x2) m2 (wrap64 (i + 1)) = some (r1, r2) := H
          have HA := Aside0.mk H
          have HA1 := Aside0.mk A1
          clear H A1
          obtain ⟨Ao, co, eo⟩ := Kd.S_slice HO.out
          subst eo
          obtain ⟨g, cap, eo, gb, gl, cl, HG⟩ := Kd.S_form HO.out (by omega)
          injection eo with eqa _ eqc
          subst eqa eqc
          obtain ⟨oki, u, hR, hcell, hfro, hok, hback⟩ := S_lend_row HO.out c4 c3
          have HRR := Aside0.mk hR
          have HCB := Aside0.mk (fun (W1 : World) (ok1 : Nat → Prop) (x' : List Int) (a : Kept wr W1 oki) (b : Kd.R (Kd.int .i64) 2 W1 w0.heap.size ok1 u x') => hback a b)
          have HOKI := Aside0.mk hok
          clear hR hok hback gb gl HG hfro HO
          have p5 := eq_true c4
          have p5b : decide (0 ≤ i) = true := decide_eq_true c4
          have q5 := eq_true c3
          have q5b : decide (i < (xs.length : Int)) = true := decide_eq_true c3
          clear c3 c4
          go_wp2_with (first | (go_at_call 22; refine (laws_markInt64S.calls k1 oki u (xs.getD i.toNat []) m m2 x2 w0 _ HB.out HRR.out HA1.out).mono ?_; rintro e w2 ⟨rfl, hy, hb, hkp⟩; have HO := Aside0.mk (HCB.out _ _ _ (Kept.mono hkp (fun _ h => h)) hy); have n2_ := Aside0.mk hb; have n3_ := Aside0.mk (Kept.then_ HK.out hkp (fun k_ h_ => .inl (HOKI.out k_ h_))); clear HB HK HRR HCB HOKI hy hb hkp hcell; have HB := n2_; have HK := n3_; clear n2_ n3_))
          go_roundg k1
          case measure => have := HK1.out; omega
          case rel => exact ⟨xs.set i.toNat x2, m2, wrap64 (i + 1), rfl, by first | rfl | go_num, HA, ⟨by have := HK1.out; omega⟩, ⟨by simpa only [List.length_set] using HO.out⟩, HK, HB⟩
        · rw [if_neg c4] at H
          exact absurd H (by simp)
      · rw [if_neg c3] at H
        simp only [Option.some.injEq, Prod.mk.injEq] at H
        obtain ⟨rfl, rfl⟩ := H
        have c3b : decide (i < (xs.length : Int)) = false := decide_eq_false c3
        obtain ⟨Ao, co, eo⟩ := Kd.S_slice HO.out
        subst eo
        go_wp2
        go_ret
        exact ⟨rfl, HO.out, HB.out, HK.out⟩
/-! ### laws_heldInt64SS: function 33 -/
def laws_heldInt64SS.l0 : Nat → List (List Int) → Int → Int → Option (Int)
 | 0, _, _, _ => none
 | k + 1, x0, x1, x5 => if x5 < (x0.length : Int) then (if 0 ≤ x5 then ((laws_heldInt64S.f k (rd_L3 x0 x5) x1).bind fun t491 => (if t491 < 0 then (some (-1)) else (laws_heldInt64SS.l0 k x0 t491 (wrap64 (x5 + 1))))) else (none)) else (some x1)
def laws_heldInt64SS.f (k : Nat) (l0 : List (List Int)) (a1 : Int) : Option (Int) := laws_heldInt64SS.l0 k l0 a1 0
set_option maxHeartbeats 8000000 in
set_option maxRecDepth 100000 in
theorem laws_heldInt64SS.calls (k : Nat) (A0 : Option Addr) (c0 : Nat) (l0 : List (List Int)) (a1 : Int) (r : Int) (w : World) (hr0 : Kd.C (Kd.slice 2 (Kd.int .i64)) w A0 l0.length l0) (hc0 : l0.length ≤ c0) (h : laws_heldInt64SS.f k l0 a1 = some r) :
  Calls Try.prog 33 #[.slice A0 l0.length c0, .int .i64 a1] w fun e w' => e = .returned (.int .i64 r) ∧ Drawn0 w w' := by
 have HR0 := Aside0.mk hr0
 have HC0 := Aside0.mk hc0
 clear hr0 hc0
 have H : (laws_heldInt64SS.l0 k l0 a1 0) = some r := h
 clear h
 have H' := Aside0.mk H
 clear H
 go_enter Try.func33, Try.ntmps33
 go_wp2
 go_loopg [1, 5] k (fun kq v1 v5 w' => ∃ (x1_1 : Int) (x5_1 : Int), v1 = .int .i64 x1_1 ∧ v5 = .int .i64 x5_1 ∧ Aside0 (laws_heldInt64SS.l0 kq l0 x1_1 x5_1 = some r) ∧ Aside0 (kq ≤ k) ∧ Drawn0 w w')
 case atStart => exact ⟨(a1), (0), (by first | rfl | (simp; done) | (simp [*]; done)), (by first | rfl | (simp; done) | (simp [*]; done)), H', ⟨Nat.le_refl _⟩, by repeat (first | exact Drawn0.refl _ | apply Drawn0.step)⟩
 case round =>
  clear H'
  (try clear p2)
  obtain ⟨x1_1, x5_1, rfl, rfl, HA, HK1, ⟨m1, rfl⟩⟩ := hrel
  cases gk with
  | zero => exact absurd HA.out (by simp [laws_heldInt64SS.l0])
  | succ k1 =>
   have H := HA.out
   clear HA
   simp only [laws_heldInt64SS.l0] at H
   by_cases c3 : x5_1 < (l0.length : Int)
   ·rw [if_pos c3] at H
    have c3b0 : decide (x5_1 < (l0.length : Int)) = true := decide_eq_true c3
    clear c3
    by_cases c4 : 0 ≤ x5_1
    ·rw [if_pos c4] at H
     have c4b0 : decide (0 ≤ x5_1) = true := decide_eq_true c4
     clear c4
     replace H := Option.bind_eq_some_iff.mp H
     obtain ⟨t491, A50, H⟩ := H
     replace H : (if t491 < 0 then (some (-1)) else (laws_heldInt64SS.l0 k1 l0 t491 (wrap64 (x5_1 + 1)))) = some r := H
     have A5 := Aside0.mk A50
     clear A50
     by_cases c6 : t491 < 0
     ·rw [if_pos c6] at H
      have c6b0 : decide (t491 < 0) = true := decide_eq_true c6
      clear c6
      obtain rfl := Option.some.inj H
      have p490 : 0 ≤ (x5_1 : Int) := oda
      have q490 : x5_1 < (l0.length : Int) := oda
      obtain ⟨ad490, A490_0, c490_0, e490, hx490_0, hl490_0, hi490_0⟩ := at_L3 HR0.out x5_1 p490 q490
      cases e490
      have HR490_0 := Aside0.mk hi490_0
      have HC490_0 := Aside0.mk hl490_0
      clear hi490_0 hl490_0
      replace p490 := eq_true p490
      replace q490 := eq_true q490
      go_wp2_with (first | ((with_reducible refine gate_callee (f := 23) rfl ?_); refine goesA_ (some 17) rfl rfl Try.func23 (by kernel_rfl) rfl #[.slice A490_0 (rd_L3 l0 x5_1).length c490_0, .int .i64 x1_1] rfl ?_; (with_reducible refine (laws_heldInt64S.calls k1 _ _ (rd_L3 l0 x5_1) x1_1 t491 _ ?side1 ?side2 A5.out).mono ?_); (case side1 => repeat (first | exact HR490_0.out | (with_reducible refine Kd.C_alloc ?_ _) | (with_reducible refine Kd.C_drewN ?_ _) | (with_reducible refine Kd.C_drew ?_))); (case side2 => exact HC490_0.out); rintro e w' ⟨rfl, ⟨nd, rfl⟩⟩; refine ⟨_, rfl, ?_⟩))
      go_ret
      exact ⟨by first | rfl | (simp; done) | (simp [*]; done), by repeat (first | exact Drawn0.refl _ | apply Drawn0.step)⟩
     ·rw [if_neg c6] at H
      have c6b0 : decide (t491 < 0) = false := decide_eq_false c6
      clear c6
      have H' := Aside0.mk H
      clear H
      have p490 : 0 ≤ (x5_1 : Int) := oda
      have q490 : x5_1 < (l0.length : Int) := oda
      obtain ⟨ad490, A490_0, c490_0, e490, hx490_0, hl490_0, hi490_0⟩ := at_L3 HR0.out x5_1 p490 q490
      cases e490
      have HR490_0 := Aside0.mk hi490_0
      have HC490_0 := Aside0.mk hl490_0
      clear hi490_0 hl490_0
      replace p490 := eq_true p490
      replace q490 := eq_true q490
      go_wp2_with (first | ((with_reducible refine gate_callee (f := 23) rfl ?_); refine goesA_ (some 17) rfl rfl Try.func23 (by kernel_rfl) rfl #[.slice A490_0 (rd_L3 l0 x5_1).length c490_0, .int .i64 x1_1] rfl ?_; (with_reducible refine (laws_heldInt64S.calls k1 _ _ (rd_L3 l0 x5_1) x1_1 t491 _ ?side1 ?side2 A5.out).mono ?_); (case side1 => repeat (first | exact HR490_0.out | (with_reducible refine Kd.C_alloc ?_ _) | (with_reducible refine Kd.C_drewN ?_ _) | (with_reducible refine Kd.C_drew ?_))); (case side2 => exact HC490_0.out); rintro e w' ⟨rfl, ⟨nd, rfl⟩⟩; refine ⟨_, rfl, ?_⟩))
      go_roundg k1
      case measure => have := HK1.out; omega
      case rel => exact ⟨(t491), (wrap64 (x5_1 + 1)), (by first | rfl | (simp; done) | (simp [*]; done)), (by first | rfl | (simp; done) | (simp [*]; done)), H', ⟨by have := HK1.out; omega⟩, by repeat (first | exact Drawn0.refl _ | apply Drawn0.step)⟩
    ·rw [if_neg c4] at H
     exact absurd H (by simp)
   ·rw [if_neg c3] at H
    have c3b0 : decide (x5_1 < (l0.length : Int)) = false := decide_eq_false c3
    clear c3
    obtain rfl := Option.some.inj H
    go_wp2
    go_ret
    exact ⟨by first | rfl | (simp; done) | (simp [*]; done), by repeat (first | exact Drawn0.refl _ | apply Drawn0.step)⟩
/-! ### laws_FnExactFleetList: function 6 -/
mutual
def laws_FnExactFleetList.j0 : Nat → List (List Int) → Int → List (List Int) → Int → Bool → Int → Int → List Int → Int → Int → List Int → Option (Bool)
 | 0, _, _, _, _, _, _, _, _, _, _, _ => none
 | k + 1, x4, x5, x7, x8, x40, x493000, x493001, x493002, x509000, x509001, x509002 => if x40 = true then (some false) else ((laws_toSea.f k x493000 x493001 x493002).bind fun bt514 => ((laws_eqSea.f k x509000 x509001 x509002 bt514.1 bt514.2.1 bt514.2.2).bind fun t519 => (if t519 = true then ((laws_markSea.f k x509000 x509001 x509002 1).bind fun bt520 => (if bt520.1 < 0 then (laws_FnExactFleetList.j1 k x4 x5 x7 true x493000 x493001 x493002) else ((laws_eqInt64SS.f k x7 x4).bind fun t522 => (if t522 = true then (laws_FnExactFleetList.j1 k x4 x5 x7 (x8 != x5) x493000 x493001 x493002) else (laws_FnExactFleetList.j1 k x4 x5 x7 true x493000 x493001 x493002))))) else (some false))))
def laws_FnExactFleetList.j1 : Nat → List (List Int) → Int → List (List Int) → Bool → Int → Int → List Int → Option (Bool)
 | 0, _, _, _, _, _, _, _ => none
 | k + 1, x4, x5, x7, x61, x493000, x493001, x493002 => if x61 = true then (some false) else ((laws_markInt64SS.f k x7 1).bind fun bt523 => ((laws_heldInt64SS.f k bt523.2 1).bind fun t525 => (if t525 < 0 then (some false) else (if t525 = bt523.1 then ((laws_toSea.f k x493000 x493001 x493002).bind fun bt526 => ((impl_FleetList.f k bt526.1 bt526.2.1 bt526.2.2).bind fun bt531 => ((laws_eqInt64SS.f k bt531.1 x4).bind fun t535 => (if t535 = true then (laws_FnExactFleetList.j2 k bt523.2 bt523.1 (bt531.2 != x5)) else (laws_FnExactFleetList.j2 k bt523.2 bt523.1 true))))) else (some false)))))
def laws_FnExactFleetList.j2 : Nat → List (List Int) → Int → Bool → Option (Bool)
 | 0, _, _, _ => none
 | k + 1, x7, x10, x87 => if x87 = true then (some false) else ((laws_heldInt64SS.f k x7 1).bind fun t536 => (if t536 < 0 then (some false) else (if t536 = x10 then (some true) else (some false))))
end
def laws_FnExactFleetList.f (k : Nat) (a0_0 : Int) (a0_1 : Int) (l0_2 : List Int) : Option (Bool) := (laws_szSea.f a0_0 a0_1 l0_2 1048576).bind fun t493 => (if t493 < 0 then (some true) else ((laws_toSea.f k a0_0 a0_1 l0_2).bind fun bt494 => ((spec_FleetList.f k bt494.1 bt494.2.1 bt494.2.2).bind fun bt499 => ((laws_toSea.f k a0_0 a0_1 l0_2).bind fun bt503 => ((impl_FleetList.f k bt503.1 bt503.2.1 bt503.2.2).bind fun bt509 => ((laws_eqInt64SS.f k bt509.1 bt499.1).bind fun t513 => (if t513 = true then (laws_FnExactFleetList.j0 k bt499.1 bt499.2 bt509.1 bt509.2 (bt509.2 != bt499.2) a0_0 a0_1 l0_2 bt503.1 bt503.2.1 bt503.2.2) else (laws_FnExactFleetList.j0 k bt499.1 bt499.2 bt509.1 bt509.2 true a0_0 a0_1 l0_2 bt503.1 bt503.2.1 bt503.2.2))))))))
set_option maxHeartbeats 8000000 in
set_option maxRecDepth 100000 in
theorem laws_FnExactFleetList.calls (k : Nat) (a0_0 : Int) (a0_1 : Int) (A0_2 : Option Addr) (c0_2 : Nat) (l0_2 : List Int) (r : Bool) (w : World) (hr0_2 : Kd.C (Kd.int .i64) w A0_2 l0_2.length l0_2) (hc0_2 : l0_2.length ≤ c0_2) (h : laws_FnExactFleetList.f k a0_0 a0_1 l0_2 = some true) :
  Calls Try.prog 6 #[.agg #[.int .i64 a0_0, .int .i64 a0_1, .slice A0_2 l0_2.length c0_2]] w fun e w' => e = .returned (.bool true) ∧ Below w.heap.size w w' := by
 have hu24 := Try.underlying24
 have hu28 := Try.underlying28
 have HR0_2 := Aside0.mk hr0_2
 have HC0_2 := Aside0.mk hc0_2
 clear hr0_2 hc0_2
 have HB := Aside0.mk (Below.refl w.heap.size w)
 have H : ((laws_szSea.f a0_0 a0_1 l0_2 1048576).bind fun t493 => (if t493 < 0 then (some true) else ((laws_toSea.f k a0_0 a0_1 l0_2).bind fun bt494 => ((spec_FleetList.f k bt494.1 bt494.2.1 bt494.2.2).bind fun bt499 => ((laws_toSea.f k a0_0 a0_1 l0_2).bind fun bt503 => ((impl_FleetList.f k bt503.1 bt503.2.1 bt503.2.2).bind fun bt509 => ((laws_eqInt64SS.f k bt509.1 bt499.1).bind fun t513 => (if t513 = true then (laws_FnExactFleetList.j0 k bt499.1 bt499.2 bt509.1 bt509.2 (bt509.2 != bt499.2) a0_0 a0_1 l0_2 bt503.1 bt503.2.1 bt503.2.2) else (laws_FnExactFleetList.j0 k bt499.1 bt499.2 bt509.1 bt509.2 true a0_0 a0_1 l0_2 bt503.1 bt503.2.1 bt503.2.2))))))))) = some true := h
 clear h
 replace H := Option.bind_eq_some_iff.mp H
 obtain ⟨t493, A20, H⟩ := H
 replace H : (if t493 < 0 then (some true) else ((laws_toSea.f k a0_0 a0_1 l0_2).bind fun bt494 => ((spec_FleetList.f k bt494.1 bt494.2.1 bt494.2.2).bind fun bt499 => ((laws_toSea.f k a0_0 a0_1 l0_2).bind fun bt503 => ((impl_FleetList.f k bt503.1 bt503.2.1 bt503.2.2).bind fun bt509 => ((laws_eqInt64SS.f k bt509.1 bt499.1).bind fun t513 => (if t513 = true then (laws_FnExactFleetList.j0 k bt499.1 bt499.2 bt509.1 bt509.2 (bt509.2 != bt499.2) a0_0 a0_1 l0_2 bt503.1 bt503.2.1 bt503.2.2) else (laws_FnExactFleetList.j0 k bt499.1 bt499.2 bt509.1 bt509.2 true a0_0 a0_1 l0_2 bt503.1 bt503.2.1 bt503.2.2)))))))) = some true := H
 have A2 := Aside0.mk A20
 clear A20
 by_cases c3 : t493 < 0
 ·rw [if_pos c3] at H
  have c3b0 : decide (t493 < 0) = true := decide_eq_true c3
  clear c3
  clear H
  go_enter Try.func6, Try.ntmps6
  go_wp2_with (first | ((with_reducible refine gate_dst (N := 1) rfl ?_); refine box_event ?hg (N := 1) ?hd (cs := #[.int .i64 a0_0, .int .i64 a0_1, .slice A0_2 l0_2.length c0_2]) (t := 24) ?hr ?_; (case hd => rfl); (case hg => rfl); (case hr => first | (go_simp; done) | (go_simp; rfl)); intro gb492 hg w4 hbox hb; have n0_ := Aside0.mk (below_step hb_ hb); have n1_ := Aside0.mk (hbox); have n2_ := Aside0.mk ((by rw [hg]; exact (below_size hb_) : w.heap.size ≤ gb492)); have n3_ := Aside0.mk ((by rw [hg]; exact (below_size hb_) : w.heap.size ≤ gb492)); clear HB; have HB := n0_; have BK492 := n1_; have GW492 := n2_; have GE492 := n3_; clear n0_ n1_ n2_ n3_; clear hb hbox hg; have hcz5_0 : w4.cell? ⟨gb492, 0, none⟩ = some (.int .i64 a0_0) := (blk_cell BK492.out 0).trans rfl; have hcz5_1 : w4.cell? ⟨gb492, 1, none⟩ = some (.int .i64 a0_1) := (blk_cell BK492.out 1).trans rfl; have hcz5_2 : w4.cell? ⟨gb492, 2, none⟩ = some (.slice A0_2 l0_2.length c0_2) := (blk_cell BK492.out 2).trans rfl; have hfz5_0 := blk_frozen BK492.out 0; have hfz5_1 := blk_frozen BK492.out 1; have hfz5_2 := blk_frozen BK492.out 2) | ((with_reducible refine gate_callee (f := 15) rfl ?_); refine goesA_ (some 16) rfl rfl Try.func15 (by kernel_rfl) rfl #[.agg #[.int .i64 a0_0, .int .i64 a0_1, .slice A0_2 l0_2.length c0_2], .int .i64 1048576] rfl ?_; (with_reducible refine (laws_szSea.calls a0_0 a0_1 _ _ l0_2 1048576 t493 _ ?side1 ?side2 A2.out).mono ?_); (case side1 => repeat (first | exact (Kd.C_below HR0_2.out HB.out) | (with_reducible refine Kd.C_alloc ?_ _) | (with_reducible refine Kd.C_drewN ?_ _) | (with_reducible refine Kd.C_drew ?_))); (case side2 => exact HC0_2.out); rintro e w6 ⟨rfl, hb⟩; refine ⟨_, rfl, ?_⟩; have n0_ := Aside0.mk (blk_below (g := gb492) (o := .cells #[.int .i64 a0_0, .int .i64 a0_1, .slice A0_2 l0_2.length c0_2] 24 (0, 0)) (by (with_reducible repeat (first | refine blk_drewN ?_ _ | refine blk_drew ?_ | refine blk_alloc ?_ _)); exact BK492.out) hb); have n1_ := Aside0.mk (below_step (by repeat (first | (with_reducible first | exact HB.out | apply below_alloc | apply pw_below_drewN | apply below_drew1 | refine below_set ?_ GE492.out) | exact HB.out)) hb); clear BK492; clear HB; have BK492 := n0_; have HB := n1_; clear n0_ n1_; (try clear hb); (try clear hb2); (try clear hk); (try clear hi)))
  go_ret
  exact ⟨by first | rfl | (simp [errW_none, errW_some] <;> rfl) | (simp [*, errW_none, errW_some] <;> rfl), by repeat (first | (with_reducible first | exact HB.out | apply below_alloc | apply pw_below_drewN | apply below_drew1 | refine below_set ?_ GE492.out) | exact HB.out)⟩
 ·rw [if_neg c3] at H
  have c3b0 : decide (t493 < 0) = false := decide_eq_false c3
  clear c3
  replace H := Option.bind_eq_some_iff.mp H
  obtain ⟨⟨t494, t495, t496⟩, A70, H⟩ := H
  replace H : ((spec_FleetList.f k t494 t495 t496).bind fun bt499 => ((laws_toSea.f k a0_0 a0_1 l0_2).bind fun bt503 => ((impl_FleetList.f k bt503.1 bt503.2.1 bt503.2.2).bind fun bt509 => ((laws_eqInt64SS.f k bt509.1 bt499.1).bind fun t513 => (if t513 = true then (laws_FnExactFleetList.j0 k bt499.1 bt499.2 bt509.1 bt509.2 (bt509.2 != bt499.2) a0_0 a0_1 l0_2 bt503.1 bt503.2.1 bt503.2.2) else (laws_FnExactFleetList.j0 k bt499.1 bt499.2 bt509.1 bt509.2 true a0_0 a0_1 l0_2 bt503.1 bt503.2.1 bt503.2.2)))))) = some true := H
  have A7 := Aside0.mk A70
  clear A70
  replace H := Option.bind_eq_some_iff.mp H
  obtain ⟨⟨t499, t502⟩, A80, H⟩ := H
  replace H : ((laws_toSea.f k a0_0 a0_1 l0_2).bind fun bt503 => ((impl_FleetList.f k bt503.1 bt503.2.1 bt503.2.2).bind fun bt509 => ((laws_eqInt64SS.f k bt509.1 t499).bind fun t513 => (if t513 = true then (laws_FnExactFleetList.j0 k t499 t502 bt509.1 bt509.2 (bt509.2 != t502) a0_0 a0_1 l0_2 bt503.1 bt503.2.1 bt503.2.2) else (laws_FnExactFleetList.j0 k t499 t502 bt509.1 bt509.2 true a0_0 a0_1 l0_2 bt503.1 bt503.2.1 bt503.2.2))))) = some true := H
  have A8 := Aside0.mk A80
  clear A80
  replace H := Option.bind_eq_some_iff.mp H
  obtain ⟨⟨t503, t504, t505⟩, A90, H⟩ := H
  replace H : ((impl_FleetList.f k t503 t504 t505).bind fun bt509 => ((laws_eqInt64SS.f k bt509.1 t499).bind fun t513 => (if t513 = true then (laws_FnExactFleetList.j0 k t499 t502 bt509.1 bt509.2 (bt509.2 != t502) a0_0 a0_1 l0_2 t503 t504 t505) else (laws_FnExactFleetList.j0 k t499 t502 bt509.1 bt509.2 true a0_0 a0_1 l0_2 t503 t504 t505)))) = some true := H
  have A9 := Aside0.mk A90
  clear A90
  replace H := Option.bind_eq_some_iff.mp H
  obtain ⟨⟨t509, t512⟩, A100, H⟩ := H
  replace H : ((laws_eqInt64SS.f k t509 t499).bind fun t513 => (if t513 = true then (laws_FnExactFleetList.j0 k t499 t502 t509 t512 (t512 != t502) a0_0 a0_1 l0_2 t503 t504 t505) else (laws_FnExactFleetList.j0 k t499 t502 t509 t512 true a0_0 a0_1 l0_2 t503 t504 t505))) = some true := H
  have A10 := Aside0.mk A100
  clear A100
  have HC11 := Aside0.mk H
  clear H
  go_enter Try.func6, Try.ntmps6
  go_upto_region 8 with (first | ((with_reducible refine gate_dst (N := 1) rfl ?_); refine box_event ?hg (N := 1) ?hd (cs := #[.int .i64 a0_0, .int .i64 a0_1, .slice A0_2 l0_2.length c0_2]) (t := 24) ?hr ?_; (case hd => rfl); (case hg => rfl); (case hr => first | (go_simp; done) | (go_simp; rfl)); intro gb492 hg w12 hbox hb; have n0_ := Aside0.mk (below_step hb_ hb); have n1_ := Aside0.mk (hbox); have n2_ := Aside0.mk ((by rw [hg]; exact (below_size hb_) : w.heap.size ≤ gb492)); have n3_ := Aside0.mk ((by rw [hg]; exact (below_size hb_) : w.heap.size ≤ gb492)); clear HB; have HB := n0_; have BK492 := n1_; have GW492 := n2_; have GE492 := n3_; clear n0_ n1_ n2_ n3_; clear hb hbox hg; have hcz13_0 : w12.cell? ⟨gb492, 0, none⟩ = some (.int .i64 a0_0) := (blk_cell BK492.out 0).trans rfl; have hcz13_1 : w12.cell? ⟨gb492, 1, none⟩ = some (.int .i64 a0_1) := (blk_cell BK492.out 1).trans rfl; have hcz13_2 : w12.cell? ⟨gb492, 2, none⟩ = some (.slice A0_2 l0_2.length c0_2) := (blk_cell BK492.out 2).trans rfl; have hfz13_0 := blk_frozen BK492.out 0; have hfz13_1 := blk_frozen BK492.out 1; have hfz13_2 := blk_frozen BK492.out 2) | ((with_reducible refine gate_callee (f := 15) rfl ?_); refine goesA_ (some 16) rfl rfl Try.func15 (by kernel_rfl) rfl #[.agg #[.int .i64 a0_0, .int .i64 a0_1, .slice A0_2 l0_2.length c0_2], .int .i64 1048576] rfl ?_; (with_reducible refine (laws_szSea.calls a0_0 a0_1 _ _ l0_2 1048576 t493 _ ?side1 ?side2 A2.out).mono ?_); (case side1 => repeat (first | exact (Kd.C_below HR0_2.out HB.out) | (with_reducible refine Kd.C_alloc ?_ _) | (with_reducible refine Kd.C_drewN ?_ _) | (with_reducible refine Kd.C_drew ?_))); (case side2 => exact HC0_2.out); rintro e w14 ⟨rfl, hb⟩; refine ⟨_, rfl, ?_⟩; have n0_ := Aside0.mk (blk_below (g := gb492) (o := .cells #[.int .i64 a0_0, .int .i64 a0_1, .slice A0_2 l0_2.length c0_2] 24 (0, 0)) (by (with_reducible repeat (first | refine blk_drewN ?_ _ | refine blk_drew ?_ | refine blk_alloc ?_ _)); exact BK492.out) hb); have n1_ := Aside0.mk (below_step (by repeat (first | (with_reducible first | exact HB.out | apply below_alloc | apply pw_below_drewN | apply below_drew1 | refine below_set ?_ GE492.out) | exact HB.out)) hb); clear BK492; clear HB; have BK492 := n0_; have HB := n1_; clear n0_ n1_; (try clear hb); (try clear hb2); (try clear hk); (try clear hi); have hcz15_0 : w14.cell? ⟨gb492, 0, none⟩ = some (.int .i64 a0_0) := (blk_cell BK492.out 0).trans rfl; have hcz15_1 : w14.cell? ⟨gb492, 1, none⟩ = some (.int .i64 a0_1) := (blk_cell BK492.out 1).trans rfl; have hcz15_2 : w14.cell? ⟨gb492, 2, none⟩ = some (.slice A0_2 l0_2.length c0_2) := (blk_cell BK492.out 2).trans rfl; have hfz15_0 := blk_frozen BK492.out 0; have hfz15_1 := blk_frozen BK492.out 1; have hfz15_2 := blk_frozen BK492.out 2) | ((with_reducible refine gate_callee (f := 17) rfl ?_); refine goesA_ (some 21) rfl rfl Try.func17 (by kernel_rfl) rfl #[.agg #[.int .i64 a0_0, .int .i64 a0_1, .slice A0_2 l0_2.length c0_2]] rfl ?_; (with_reducible refine (laws_toSea.calls k a0_0 a0_1 _ _ l0_2 t494 t495 t496 _ ?side1 ?side2 A7.out).mono ?_); (case side1 => repeat (first | exact (Kd.C_below HR0_2.out HB.out) | (with_reducible refine Kd.C_alloc ?_ _) | (with_reducible refine Kd.C_drewN ?_ _) | (with_reducible refine Kd.C_drew ?_))); (case side2 => exact HC0_2.out); rintro e w16 ⟨v497, rfl, ho0, hb⟩; refine ⟨_, rfl, ?_⟩; have n0_ := Aside0.mk (Kd.R_lower ho0 (below_size (by repeat (first | (with_reducible first | exact HB.out | apply below_alloc | apply pw_below_drewN | apply below_drew1 | refine below_set ?_ GE492.out) | exact HB.out)))); have n1_ := Aside0.mk (blk_below (g := gb492) (o := .cells #[.int .i64 a0_0, .int .i64 a0_1, .slice A0_2 l0_2.length c0_2] 24 (0, 0)) (by (with_reducible repeat (first | refine blk_drewN ?_ _ | refine blk_drew ?_ | refine blk_alloc ?_ _)); exact BK492.out) hb); have n2_ := Aside0.mk (below_step (by repeat (first | (with_reducible first | exact HB.out | apply below_alloc | apply pw_below_drewN | apply below_drew1 | refine below_set ?_ GE492.out) | exact HB.out)) hb); clear BK492; clear HB; have HO498 := n0_; have BK492 := n1_; have HB := n2_; clear n0_ n1_ n2_; (try clear hb); (try clear hb2); (try clear hk); (try clear hi); (try clear ho0); obtain ⟨Ao17, co17, eo17⟩ := Kd.R_slice HO498.out; subst eo17) | ((with_reducible refine gate_callee (f := 29) rfl ?_); refine goesA_ (some 22) rfl rfl Try.func29 (by kernel_rfl) rfl #[.agg #[.int .i64 t494, .int .i64 t495, .slice Ao17 t496.length co17]] rfl ?_; (with_reducible refine (spec_FleetList.calls k t494 t495 _ _ t496 t499 t502 _ ?side1 ?side2 A8.out).mono ?_); (case side1 => repeat (first | exact (Kd.R_reads' HO498.out).2.2 | (with_reducible refine Kd.C_alloc ?_ _) | (with_reducible refine Kd.C_drewN ?_ _) | (with_reducible refine Kd.C_drew ?_))); (case side2 => exact (Kd.R_reads' HO498.out).2.1); rintro e w18 ⟨v500, rfl, ho0, hb⟩; refine ⟨_, rfl, ?_⟩; have n0_ := Aside0.mk (Kd.R_below (by (with_reducible repeat (first | apply Kd.R_alloc | apply Kd.R_drewN | apply Kd.R_drew)); exact HO498.out) hb); have n1_ := Aside0.mk (Kd.V_lower (Kd.V_mono (ok' := fun k_ => some k_ ≠ (.slice Ao17 t496.length co17 : Value).ownBlock ∧ k_ ≠ gb492) ho0 (fun k_ hk_ => ⟨(Kd.fresh' (Kd.R_lt (by (with_reducible repeat (first | apply Kd.R_alloc | apply Kd.R_drewN | apply Kd.R_drew)); exact HO498.out)) k_ hk_), (Kd.freshB (g := gb492) (o := .cells #[.int .i64 a0_0, .int .i64 a0_1, .slice A0_2 l0_2.length c0_2] 24 (0, 0)) (by (with_reducible repeat (first | refine blk_drewN ?_ _ | refine blk_drew ?_ | refine blk_alloc ?_ _)); exact BK492.out) k_ hk_)⟩)) (below_size (by repeat (first | (with_reducible first | exact HB.out | apply below_alloc | apply pw_below_drewN | apply below_drew1 | refine below_set ?_ GE492.out) | exact HB.out)))); have n2_ := Aside0.mk (blk_below (g := gb492) (o := .cells #[.int .i64 a0_0, .int .i64 a0_1, .slice A0_2 l0_2.length c0_2] 24 (0, 0)) (by (with_reducible repeat (first | refine blk_drewN ?_ _ | refine blk_drew ?_ | refine blk_alloc ?_ _)); exact BK492.out) hb); have n3_ := Aside0.mk (below_step (by repeat (first | (with_reducible first | exact HB.out | apply below_alloc | apply pw_below_drewN | apply below_drew1 | refine below_set ?_ GE492.out) | exact HB.out)) hb); clear HO498; clear BK492; clear HB; have HO498 := n0_; have HO501 := n1_; have BK492 := n2_; have HB := n3_; clear n0_ n1_ n2_ n3_; (try clear hb); (try clear hb2); (try clear hk); (try clear hi); (try clear ho0); have hcz19_0 : w18.cell? ⟨gb492, 0, none⟩ = some (.int .i64 a0_0) := (blk_cell BK492.out 0).trans rfl; have hcz19_1 : w18.cell? ⟨gb492, 1, none⟩ = some (.int .i64 a0_1) := (blk_cell BK492.out 1).trans rfl; have hcz19_2 : w18.cell? ⟨gb492, 2, none⟩ = some (.slice A0_2 l0_2.length c0_2) := (blk_cell BK492.out 2).trans rfl; have hfz19_0 := blk_frozen BK492.out 0; have hfz19_1 := blk_frozen BK492.out 1; have hfz19_2 := blk_frozen BK492.out 2) | ((with_reducible refine gate_callee (f := 17) rfl ?_); refine goesA_ (some 26) rfl rfl Try.func17 (by kernel_rfl) rfl #[.agg #[.int .i64 a0_0, .int .i64 a0_1, .slice A0_2 l0_2.length c0_2]] rfl ?_; (with_reducible refine (laws_toSea.calls k a0_0 a0_1 _ _ l0_2 t503 t504 t505 _ ?side1 ?side2 A9.out).mono ?_); (case side1 => repeat (first | exact (Kd.C_below HR0_2.out HB.out) | (with_reducible refine Kd.C_alloc ?_ _) | (with_reducible refine Kd.C_drewN ?_ _) | (with_reducible refine Kd.C_drew ?_))); (case side2 => exact HC0_2.out); rintro e w20 ⟨v506, rfl, ho0, hb⟩; refine ⟨_, rfl, ?_⟩; have n0_ := Aside0.mk (Kd.R_elder' (by (with_reducible repeat (first | apply Kd.R_alloc | apply Kd.R_drewN | apply Kd.R_drew)); exact HO498.out) (Kd.R_base ho0) hb); have n1_ := Aside0.mk (Kd.V_elder' (by (with_reducible repeat (first | apply Kd.V_alloc | apply Kd.V_drewN | apply Kd.V_drew)); exact HO501.out) (Kd.R_base ho0) hb); have n2_ := Aside0.mk (Kd.R_lower (Kd.R_new' ho0 (Kd.R_lt (by (with_reducible repeat (first | apply Kd.R_alloc | apply Kd.R_drewN | apply Kd.R_drew)); exact HO498.out))) (below_size (by repeat (first | (with_reducible first | exact HB.out | apply below_alloc | apply pw_below_drewN | apply below_drew1 | refine below_set ?_ GE492.out) | exact HB.out)))); have n3_ := Aside0.mk (blk_below (g := gb492) (o := .cells #[.int .i64 a0_0, .int .i64 a0_1, .slice A0_2 l0_2.length c0_2] 24 (0, 0)) (by (with_reducible repeat (first | refine blk_drewN ?_ _ | refine blk_drew ?_ | refine blk_alloc ?_ _)); exact BK492.out) hb); have n4_ := Aside0.mk (below_step (by repeat (first | (with_reducible first | exact HB.out | apply below_alloc | apply pw_below_drewN | apply below_drew1 | refine below_set ?_ GE492.out) | exact HB.out)) hb); clear HO498; clear HO501; clear BK492; clear HB; have HO498 := n0_; have HO501 := n1_; have HO507 := n2_; have BK492 := n3_; have HB := n4_; clear n0_ n1_ n2_ n3_ n4_; (try clear hb); (try clear hb2); (try clear hk); (try clear hi); (try clear ho0)) | ((with_reducible refine gate_dst (N := 6) rfl ?_); refine box_event ?hg (N := 6) ?hd (cs := #[.int .i64 0, .int .i64 0, .slice none 0 0]) (t := 28) ?hr ?_; (case hd => rfl); (case hg => rfl); (case hr => first | (go_simp; done) | (go_simp; rfl)); intro gb508 hg w21 hbox hb; have n0_ := Aside0.mk (Kd.R_below (by (with_reducible repeat (first | apply Kd.R_alloc | apply Kd.R_drewN | apply Kd.R_drew)); exact HO498.out) hb); have n1_ := Aside0.mk (Kd.V_below (Kd.V_elderB (by (with_reducible repeat (first | apply Kd.V_alloc | apply Kd.V_drewN | apply Kd.V_drew)); exact HO501.out) gb508 (Nat.le_of_eq hg.symm)) hb); have n2_ := Aside0.mk (Kd.R_below (by (with_reducible repeat (first | apply Kd.R_alloc | apply Kd.R_drewN | apply Kd.R_drew)); exact HO507.out) hb); have n3_ := Aside0.mk (blk_below (g := gb492) (o := .cells #[.int .i64 a0_0, .int .i64 a0_1, .slice A0_2 l0_2.length c0_2] 24 (0, 0)) (by (with_reducible repeat (first | refine blk_drewN ?_ _ | refine blk_drew ?_ | refine blk_alloc ?_ _)); exact BK492.out) hb); have n4_ := Aside0.mk (below_step (by repeat (first | (with_reducible first | exact HB.out | apply below_alloc | apply pw_below_drewN | apply below_drew1 | refine below_set ?_ GE492.out) | exact HB.out)) hb); have n5_ := Aside0.mk (hbox); have n6_ := Aside0.mk ((by rw [hg]; exact (below_size (by repeat (first | (with_reducible first | exact HB.out | apply below_alloc | apply pw_below_drewN | apply below_drew1 | refine below_set ?_ GE492.out) | exact HB.out))) : w.heap.size ≤ gb508)); have n7_ := Aside0.mk ((by rw [hg]; exact (below_size (by repeat (first | (with_reducible first | exact HB.out | apply below_alloc | apply pw_below_drewN | apply below_drew1 | refine below_set ?_ GE492.out) | exact HB.out))) : w.heap.size ≤ gb508)); have n8_ := Aside0.mk ((by rw [hg]; exact Nat.ne_of_lt (blk_lt (g := gb492) (o := .cells #[.int .i64 a0_0, .int .i64 a0_1, .slice A0_2 l0_2.length c0_2] 24 (0, 0)) (by (with_reducible repeat (first | refine blk_drewN ?_ _ | refine blk_drew ?_ | refine blk_alloc ?_ _)); exact BK492.out)) : gb492 ≠ gb508)); have n9_ := Aside0.mk ((by rw [hg]; exact Nat.ne_of_gt (blk_lt (g := gb492) (o := .cells #[.int .i64 a0_0, .int .i64 a0_1, .slice A0_2 l0_2.length c0_2] 24 (0, 0)) (by (with_reducible repeat (first | refine blk_drewN ?_ _ | refine blk_drew ?_ | refine blk_alloc ?_ _)); exact BK492.out)) : gb508 ≠ gb492)); clear HO498; clear HO501; clear HO507; clear BK492; clear HB; have HO498 := n0_; have HO501 := n1_; have HO507 := n2_; have BK492 := n3_; have HB := n4_; have BK508 := n5_; have GW508 := n6_; have GE508 := n7_; have NB492_508 := n8_; have NB508_492 := n9_; clear n0_ n1_ n2_ n3_ n4_ n5_ n6_ n7_ n8_ n9_; clear hb hbox hg; have hnb22 := NB508_492.out; have hnc22 := NB492_508.out; have hcz23_0 : w21.cell? ⟨gb508, 0, none⟩ = some (.int .i64 0) := (blk_cell BK508.out 0).trans rfl; have hcz23_1 : w21.cell? ⟨gb508, 1, none⟩ = some (.int .i64 0) := (blk_cell BK508.out 1).trans rfl; have hcz23_2 : w21.cell? ⟨gb508, 2, none⟩ = some (.slice none 0 0) := (blk_cell BK508.out 2).trans rfl; have hfz23_0 := blk_frozen BK508.out 0; have hfz23_1 := blk_frozen BK508.out 1; have hfz23_2 := blk_frozen BK508.out 2; obtain ⟨Ao24, co24, eo24⟩ := Kd.R_slice HO507.out; subst eo24) | ((with_reducible refine gate_callee (f := 30) rfl ?_); refine goesA_ (some 29) rfl rfl Try.func30 (by kernel_rfl) rfl #[.agg #[.int .i64 t503, .int .i64 t504, .slice Ao24 t505.length co24]] rfl ?_; (with_reducible refine (impl_FleetList.calls k t503 t504 _ _ t505 t509 t512 _ ?side1 ?side2 A10.out).mono ?_); (case side1 => refine (Kd.R_reads' (e := 2) (base := w.heap.size) (ok := fun k_ => (True ∧ some k_ ≠ (.slice Ao17 t496.length co17 : Value).ownBlock)) (n := t505.length) (c := co24) ?_).2.2; exact (by (with_reducible repeat (first | apply Kd.R_alloc | apply Kd.R_drewN | apply Kd.R_drew)); exact (Kd.R_mono (Kd.R_far (p := ⟨gb508, 2, none⟩) (Kd.R_far (p := ⟨gb508, 1, none⟩) (Kd.R_far (p := ⟨gb508, 0, none⟩) (Kd.R_types HO507.out BK508.out (by decide)) (fun _ hk => hk.2) (.int .i64 t503)) (fun _ hk => hk.2) (.int .i64 t504)) (fun _ hk => hk.2) (.slice Ao24 t505.length co24)) (fun _ h_ => h_.1)))); (case side2 => exact (Kd.R_reads' HO507.out).2.1); rintro e w25 ⟨v510, rfl, ho0, hb⟩; refine ⟨_, rfl, ?_⟩; obtain ⟨nq26, hi⟩ := nq_of hb; have n0_ := Aside0.mk (Kd.R_below (by (with_reducible repeat (first | apply Kd.R_alloc | apply Kd.R_drewN | apply Kd.R_drew)); exact (Kd.R_mono (Kd.R_far (p := ⟨gb508, 2, none⟩) (Kd.R_far (p := ⟨gb508, 1, none⟩) (Kd.R_far (p := ⟨gb508, 0, none⟩) (Kd.R_types HO498.out BK508.out (by decide)) (fun _ hk => hk.2) (.int .i64 t503)) (fun _ hk => hk.2) (.int .i64 t504)) (fun _ hk => hk.2) (.slice Ao24 t505.length co24)) (fun _ h_ => h_.1))) hb); have n1_ := Aside0.mk (Kd.V_below (V_ltN (by (with_reducible repeat (first | apply Kd.V_alloc | apply Kd.V_drewN | apply Kd.V_drew)); exact (Kd.V_mono (Kd.V_far (p := ⟨gb508, 2, none⟩) (Kd.V_far (p := ⟨gb508, 1, none⟩) (Kd.V_far (p := ⟨gb508, 0, none⟩) (Kd.V_mono HO501.out (fun k_ hk => (⟨hk, hk.2⟩ : _ ∧ k_ ≠ gb508))) (fun _ hk => hk.2) (.int .i64 t503)) (fun _ hk => hk.2) (.int .i64 t504)) (fun _ hk => hk.2) (.slice Ao24 t505.length co24)) (fun _ h_ => h_.1))) hi) hb); have n2_ := Aside0.mk (Kd.R_below (by (with_reducible repeat (first | apply Kd.R_alloc | apply Kd.R_drewN | apply Kd.R_drew)); exact (Kd.R_mono (Kd.R_far (p := ⟨gb508, 2, none⟩) (Kd.R_far (p := ⟨gb508, 1, none⟩) (Kd.R_far (p := ⟨gb508, 0, none⟩) (Kd.R_types HO507.out BK508.out (by decide)) (fun _ hk => hk.2) (.int .i64 t503)) (fun _ hk => hk.2) (.int .i64 t504)) (fun _ hk => hk.2) (.slice Ao24 t505.length co24)) (fun _ h_ => h_.1))) hb); have n3_ := Aside0.mk (Kd.S_lower (Kd.S_new' (Kd.S_new' (S_geN ho0 hi) (Kd.R_lt (by (with_reducible repeat (first | apply Kd.R_alloc | apply Kd.R_drewN | apply Kd.R_drew)); exact (Kd.R_mono (Kd.R_far (p := ⟨gb508, 2, none⟩) (Kd.R_far (p := ⟨gb508, 1, none⟩) (Kd.R_far (p := ⟨gb508, 0, none⟩) (Kd.R_types HO498.out BK508.out (by decide)) (fun _ hk => hk.2) (.int .i64 t503)) (fun _ hk => hk.2) (.int .i64 t504)) (fun _ hk => hk.2) (.slice Ao24 t505.length co24)) (fun _ h_ => h_.1))))) (Kd.R_lt (by (with_reducible repeat (first | apply Kd.R_alloc | apply Kd.R_drewN | apply Kd.R_drew)); exact (Kd.R_mono (Kd.R_far (p := ⟨gb508, 2, none⟩) (Kd.R_far (p := ⟨gb508, 1, none⟩) (Kd.R_far (p := ⟨gb508, 0, none⟩) (Kd.R_types HO507.out BK508.out (by decide)) (fun _ hk => hk.2) (.int .i64 t503)) (fun _ hk => hk.2) (.int .i64 t504)) (fun _ hk => hk.2) (.slice Ao24 t505.length co24)) (fun _ h_ => h_.1))))) (below_size (by repeat (first | (with_reducible first | exact HB.out | apply below_alloc | apply pw_below_drewN | apply below_drew1 | refine below_set ?_ GE492.out | refine below_set ?_ GE508.out) | exact HB.out)))); have n4_ := Aside0.mk (blk_below (g := gb492) (o := .cells #[.int .i64 a0_0, .int .i64 a0_1, .slice A0_2 l0_2.length c0_2] 24 (0, 0)) (by (with_reducible repeat (first | refine blk_drewN ?_ _ | refine blk_drew ?_ | refine blk_alloc ?_ _)); refine blk_far ?_ NB492_508.out _; (with_reducible repeat (first | refine blk_drewN ?_ _ | refine blk_drew ?_ | refine blk_alloc ?_ _)); refine blk_far ?_ NB492_508.out _; (with_reducible repeat (first | refine blk_drewN ?_ _ | refine blk_drew ?_ | refine blk_alloc ?_ _)); refine blk_far ?_ NB492_508.out _; (with_reducible repeat (first | refine blk_drewN ?_ _ | refine blk_drew ?_ | refine blk_alloc ?_ _)); exact BK492.out) hb); have n5_ := Aside0.mk (blk_below (g := gb508) (o := .cells #[.int .i64 t503, .int .i64 t504, .slice Ao24 t505.length co24] 28 (0, 0)) (by (with_reducible repeat (first | refine blk_drewN ?_ _ | refine blk_drew ?_ | refine blk_alloc ?_ _)); refine blk_put (cs := #[.int .i64 t503, .int .i64 t504, .slice none 0 0]) ?_ 2 _ rfl; (with_reducible repeat (first | refine blk_drewN ?_ _ | refine blk_drew ?_ | refine blk_alloc ?_ _)); refine blk_put (cs := #[.int .i64 t503, .int .i64 0, .slice none 0 0]) ?_ 1 _ rfl; (with_reducible repeat (first | refine blk_drewN ?_ _ | refine blk_drew ?_ | refine blk_alloc ?_ _)); refine blk_put (cs := #[.int .i64 0, .int .i64 0, .slice none 0 0]) ?_ 0 _ rfl; (with_reducible repeat (first | refine blk_drewN ?_ _ | refine blk_drew ?_ | refine blk_alloc ?_ _)); exact BK508.out) hb); have n6_ := Aside0.mk (below_step (by repeat (first | (with_reducible first | exact HB.out | apply below_alloc | apply pw_below_drewN | apply below_drew1 | refine below_set ?_ GE492.out | refine below_set ?_ GE508.out) | exact HB.out)) hb); clear HO498; clear HO501; clear HO507; clear BK492; clear BK508; clear HB; have HO498 := n0_; have HO501 := n1_; have HO507 := n2_; have HO511 := n3_; have BK492 := n4_; have BK508 := n5_; have HB := n6_; clear n0_ n1_ n2_ n3_ n4_ n5_ n6_; (try clear hb); (try clear hb2); (try clear hk); (try clear hi); (try clear ho0)))
  (try simp only [Act.put, List.setIfInBounds_toArray, List.set_cons_zero, List.set_cons_succ])
  go_cut [40] (fun v40 wc => ∃ (kq : Nat) (x40_10 : Bool), v40 = .bool x40_10 ∧ Aside0 (laws_FnExactFleetList.j0 kq t499 t502 t509 t512 x40_10 a0_0 a0_1 l0_2 t503 t504 t505 = some true) ∧ Aside0 (kq ≤ k) ∧ Aside0 (Kd.V (Kd.slice 2 (Kd.int .i64)) 22 wc w.heap.size (fun k_ => some k_ ≠ ((.slice Ao24 t505.length co24) : Value).ownBlock ∧ k_ ≠ gb492 ∧ k_ ≠ gb508 ∧ k_ < nq26) v500 t499) ∧ Aside0 (Kd.S (Kd.slice 2 (Kd.int .i64)) 22 wc w.heap.size (fun k_ => some k_ ≠ ((.slice Ao24 t505.length co24) : Value).ownBlock ∧ nq26 ≤ k_) v510 t509) ∧ Aside0 (Kd.R (Kd.int .i64) 2 wc w.heap.size (fun _ => True) (.slice Ao24 t505.length co24) t505) ∧ Aside0 (wc.heap[gb492]? = some (.cells #[.int .i64 a0_0, .int .i64 a0_1, (.slice A0_2 l0_2.length c0_2)] 24 (0, 0))) ∧ Aside0 (wc.heap[gb508]? = some (.cells #[.int .i64 t503, .int .i64 t504, (.slice Ao24 t505.length co24)] 28 (0, 0))) ∧ Aside0 (Below w.heap.size w wc))
  case first =>
   have H := HC11.out
   clear HC11
   replace H := Option.bind_eq_some_iff.mp H
   obtain ⟨t513, A270, H⟩ := H
   replace H : (if t513 = true then (laws_FnExactFleetList.j0 k t499 t502 t509 t512 (t512 != t502) a0_0 a0_1 l0_2 t503 t504 t505) else (laws_FnExactFleetList.j0 k t499 t502 t509 t512 true a0_0 a0_1 l0_2 t503 t504 t505)) = some true := H
   have A27 := Aside0.mk A270
   clear A270
   by_cases c28 : t513 = true
   ·subst c28
    have H1 : (laws_FnExactFleetList.j0 k t499 t502 t509 t512 (t512 != t502) a0_0 a0_1 l0_2 t503 t504 t505) = some true := by rw [if_pos rfl] at H; exact H
    clear H
    have H := H1
    clear H1
    have H' := Aside0.mk H
    clear H
    obtain ⟨Ao29, co29, eo29⟩ := Kd.S_slice HO511.out
    subst eo29
    obtain ⟨Ao30, co30, eo30⟩ := Kd.V_slice HO501.out
    subst eo30
    go_wp2_with (first | ((with_reducible refine gate_callee (f := 31) rfl ?_); refine goesA_ (some 34) rfl rfl Try.func31 (by kernel_rfl) rfl #[.slice Ao29 t509.length co29, .slice Ao30 t499.length co30] rfl ?_; (with_reducible refine (laws_eqInt64SS.calls k _ _ t509 _ _ t499 true _ ?side1 ?side2 ?side3 ?side4 A27.out).mono ?_); (case side1 => repeat (first | exact (Kd.S_reads' HO511.out).2.2 | (with_reducible refine Kd.C_alloc ?_ _) | (with_reducible refine Kd.C_drewN ?_ _) | (with_reducible refine Kd.C_drew ?_))); (case side2 => exact (Kd.S_reads' HO511.out).2.1); (case side3 => repeat (first | exact (Kd.V_reads' HO501.out).2.2 | (with_reducible refine Kd.C_alloc ?_ _) | (with_reducible refine Kd.C_drewN ?_ _) | (with_reducible refine Kd.C_drew ?_))); (case side4 => exact (Kd.V_reads' HO501.out).2.1); rintro e w' ⟨rfl, ⟨nd, rfl⟩⟩; refine ⟨_, rfl, ?_⟩))
    go_meet
    case rel => exact ⟨_, ((t512 != t502)), (by first | rfl | (simp; done) | (simp [*]; done)), H', ⟨by first | omega | exact Nat.le_refl _⟩, ⟨by (with_reducible repeat (first | apply Kd.V_alloc | apply Kd.V_drewN | apply Kd.V_drew)); exact Kd.V_mono HO501.out (fun _ hk => ⟨hk.1.1.2, ⟨hk.1.1.1.2, ⟨hk.1.2, hk.2⟩⟩⟩)⟩, ⟨by (with_reducible repeat (first | apply Kd.S_alloc | apply Kd.S_drewN | apply Kd.S_drew)); exact Kd.S_mono HO511.out (fun _ hk => ⟨hk.2, hk.1.1.2⟩)⟩, ⟨by (with_reducible repeat (first | apply Kd.R_alloc | apply Kd.R_drewN | apply Kd.R_drew)); exact Kd.R_mono HO507.out (fun _ hk => trivial)⟩, ⟨by (with_reducible repeat (first | refine blk_drewN ?_ _ | refine blk_drew ?_ | refine blk_alloc ?_ _)); exact BK492.out⟩, ⟨by (with_reducible repeat (first | refine blk_drewN ?_ _ | refine blk_drew ?_ | refine blk_alloc ?_ _)); exact BK508.out⟩, ⟨by repeat (first | (with_reducible first | exact HB.out | apply below_alloc | apply pw_below_drewN | apply below_drew1 | refine below_set ?_ GE492.out | refine below_set ?_ GE508.out) | exact HB.out)⟩⟩
   ·replace c28 := Bool.eq_false_iff.mpr c28
    subst c28
    have H1 : (laws_FnExactFleetList.j0 k t499 t502 t509 t512 true a0_0 a0_1 l0_2 t503 t504 t505) = some true := by rw [if_neg (show ¬ (false = true) by decide)] at H; exact H
    clear H
    have H := H1
    clear H1
    have H' := Aside0.mk H
    clear H
    obtain ⟨Ao31, co31, eo31⟩ := Kd.S_slice HO511.out
    subst eo31
    obtain ⟨Ao32, co32, eo32⟩ := Kd.V_slice HO501.out
    subst eo32
    go_wp2_with (first | ((with_reducible refine gate_callee (f := 31) rfl ?_); refine goesA_ (some 34) rfl rfl Try.func31 (by kernel_rfl) rfl #[.slice Ao31 t509.length co31, .slice Ao32 t499.length co32] rfl ?_; (with_reducible refine (laws_eqInt64SS.calls k _ _ t509 _ _ t499 false _ ?side1 ?side2 ?side3 ?side4 A27.out).mono ?_); (case side1 => repeat (first | exact (Kd.S_reads' HO511.out).2.2 | (with_reducible refine Kd.C_alloc ?_ _) | (with_reducible refine Kd.C_drewN ?_ _) | (with_reducible refine Kd.C_drew ?_))); (case side2 => exact (Kd.S_reads' HO511.out).2.1); (case side3 => repeat (first | exact (Kd.V_reads' HO501.out).2.2 | (with_reducible refine Kd.C_alloc ?_ _) | (with_reducible refine Kd.C_drewN ?_ _) | (with_reducible refine Kd.C_drew ?_))); (case side4 => exact (Kd.V_reads' HO501.out).2.1); rintro e w' ⟨rfl, ⟨nd, rfl⟩⟩; refine ⟨_, rfl, ?_⟩))
    go_meet
    case rel => exact ⟨_, (true), (by first | rfl | (simp; done) | (simp [*]; done)), H', ⟨by first | omega | exact Nat.le_refl _⟩, ⟨by (with_reducible repeat (first | apply Kd.V_alloc | apply Kd.V_drewN | apply Kd.V_drew)); exact Kd.V_mono HO501.out (fun _ hk => ⟨hk.1.1.2, ⟨hk.1.1.1.2, ⟨hk.1.2, hk.2⟩⟩⟩)⟩, ⟨by (with_reducible repeat (first | apply Kd.S_alloc | apply Kd.S_drewN | apply Kd.S_drew)); exact Kd.S_mono HO511.out (fun _ hk => ⟨hk.2, hk.1.1.2⟩)⟩, ⟨by (with_reducible repeat (first | apply Kd.R_alloc | apply Kd.R_drewN | apply Kd.R_drew)); exact Kd.R_mono HO507.out (fun _ hk => trivial)⟩, ⟨by (with_reducible repeat (first | refine blk_drewN ?_ _ | refine blk_drew ?_ | refine blk_alloc ?_ _)); exact BK492.out⟩, ⟨by (with_reducible repeat (first | refine blk_drewN ?_ _ | refine blk_drew ?_ | refine blk_alloc ?_ _)); exact BK508.out⟩, ⟨by repeat (first | (with_reducible first | exact HB.out | apply below_alloc | apply pw_below_drewN | apply below_drew1 | refine below_set ?_ GE492.out | refine below_set ?_ GE508.out) | exact HB.out)⟩⟩
  case rest =>
   clear HC11
   (try clear c1); (try clear c2); (try clear p2); (try clear q2); (try clear c3); (try clear c3b0); (try clear c6); (try clear c15); (try clear c17); (try clear c22); (try clear q26); (try clear c28); (try clear c29); (try clear c30); (try clear c31); (try clear hcz13_0); (try clear hcz13_1); (try clear hcz13_2); (try clear hcz15_0); (try clear hcz15_1); (try clear hcz15_2); (try clear hcz19_0); (try clear hcz19_1); (try clear hcz19_2); (try clear hcz23_0); (try clear hcz23_1); (try clear hcz23_2); (try clear hcz5_0); (try clear hcz5_1); (try clear hcz5_2); (try clear hfz13_0); (try clear hfz13_1); (try clear hfz13_2); (try clear hfz15_0); (try clear hfz15_1); (try clear hfz15_2); (try clear hfz19_0); (try clear hfz19_1); (try clear hfz19_2); (try clear hfz23_0); (try clear hfz23_1); (try clear hfz23_2); (try clear hfz5_0); (try clear hfz5_1); (try clear hfz5_2)
   obtain ⟨kq, x40_10, rfl, HA, HJ10, HO_4, HO_7, HO_509002, BK492, BK508, HB⟩ := hcut
   cases kq with
   | zero => exact absurd HA.out (by simp [laws_FnExactFleetList.j0])
   | succ kj10 =>
    have H := HA.out
    clear HA
    simp only [laws_FnExactFleetList.j0] at H
    by_cases c33 : x40_10 = true
    ·subst c33
     have H1 : (some false) = some true := by rw [if_pos rfl] at H; exact H
     clear H
     have H := H1
     clear H1
     exact absurd H (by simp)
    ·replace c33 := Bool.eq_false_iff.mpr c33
     subst c33
     have H1 : ((laws_toSea.f kj10 a0_0 a0_1 l0_2).bind fun bt514 => ((laws_eqSea.f kj10 t503 t504 t505 bt514.1 bt514.2.1 bt514.2.2).bind fun t519 => (if t519 = true then ((laws_markSea.f kj10 t503 t504 t505 1).bind fun bt520 => (if bt520.1 < 0 then (laws_FnExactFleetList.j1 kj10 t499 t502 t509 true a0_0 a0_1 l0_2) else ((laws_eqInt64SS.f kj10 t509 t499).bind fun t522 => (if t522 = true then (laws_FnExactFleetList.j1 kj10 t499 t502 t509 (t512 != t502) a0_0 a0_1 l0_2) else (laws_FnExactFleetList.j1 kj10 t499 t502 t509 true a0_0 a0_1 l0_2))))) else (some false)))) = some true := by rw [if_neg (show ¬ (false = true) by decide)] at H; exact H
     clear H
     have H := H1
     clear H1
     replace H := Option.bind_eq_some_iff.mp H
     obtain ⟨⟨t514, t515, t516⟩, A340, H⟩ := H
     replace H : ((laws_eqSea.f kj10 t503 t504 t505 t514 t515 t516).bind fun t519 => (if t519 = true then ((laws_markSea.f kj10 t503 t504 t505 1).bind fun bt520 => (if bt520.1 < 0 then (laws_FnExactFleetList.j1 kj10 t499 t502 t509 true a0_0 a0_1 l0_2) else ((laws_eqInt64SS.f kj10 t509 t499).bind fun t522 => (if t522 = true then (laws_FnExactFleetList.j1 kj10 t499 t502 t509 (t512 != t502) a0_0 a0_1 l0_2) else (laws_FnExactFleetList.j1 kj10 t499 t502 t509 true a0_0 a0_1 l0_2))))) else (some false))) = some true := H
     have A34 := Aside0.mk A340
     clear A340
     replace H := Option.bind_eq_some_iff.mp H
     obtain ⟨t519, A350, H⟩ := H
     replace H : (if t519 = true then ((laws_markSea.f kj10 t503 t504 t505 1).bind fun bt520 => (if bt520.1 < 0 then (laws_FnExactFleetList.j1 kj10 t499 t502 t509 true a0_0 a0_1 l0_2) else ((laws_eqInt64SS.f kj10 t509 t499).bind fun t522 => (if t522 = true then (laws_FnExactFleetList.j1 kj10 t499 t502 t509 (t512 != t502) a0_0 a0_1 l0_2) else (laws_FnExactFleetList.j1 kj10 t499 t502 t509 true a0_0 a0_1 l0_2))))) else (some false)) = some true := H
     have A35 := Aside0.mk A350
     clear A350
     by_cases c36 : t519 = true
     ·subst c36
      have H1 : ((laws_markSea.f kj10 t503 t504 t505 1).bind fun bt520 => (if bt520.1 < 0 then (laws_FnExactFleetList.j1 kj10 t499 t502 t509 true a0_0 a0_1 l0_2) else ((laws_eqInt64SS.f kj10 t509 t499).bind fun t522 => (if t522 = true then (laws_FnExactFleetList.j1 kj10 t499 t502 t509 (t512 != t502) a0_0 a0_1 l0_2) else (laws_FnExactFleetList.j1 kj10 t499 t502 t509 true a0_0 a0_1 l0_2))))) = some true := by rw [if_pos rfl] at H; exact H
      clear H
      have H := H1
      clear H1
      replace H := Option.bind_eq_some_iff.mp H
      obtain ⟨⟨t520, t521⟩, A370, H⟩ := H
      replace H : (if t520 < 0 then (laws_FnExactFleetList.j1 kj10 t499 t502 t509 true a0_0 a0_1 l0_2) else ((laws_eqInt64SS.f kj10 t509 t499).bind fun t522 => (if t522 = true then (laws_FnExactFleetList.j1 kj10 t499 t502 t509 (t512 != t502) a0_0 a0_1 l0_2) else (laws_FnExactFleetList.j1 kj10 t499 t502 t509 true a0_0 a0_1 l0_2)))) = some true := H
      have A37 := Aside0.mk A370
      clear A370
      have HC38 := Aside0.mk H
      clear H
      try go_wp2
      have n0_ := Aside0.mk (Kd.V_drew HO_4.out)
      have n1_ := Aside0.mk (Kd.S_drew HO_7.out)
      have n2_ := Aside0.mk (Kd.R_drew HO_509002.out)
      have n3_ := Aside0.mk (blk_drew BK492.out)
      have n4_ := Aside0.mk (blk_drew BK508.out)
      have n5_ := Aside0.mk (below_drew1 HB.out)
      clear HO_4
      clear HO_7
      clear HO_509002
      clear BK492
      clear BK508
      clear HB
      have HO_4 := n0_
      have HO_7 := n1_
      have HO_509002 := n2_
      have BK492 := n3_
      have BK508 := n4_
      have HB := n5_
      clear n0_ n1_ n2_ n3_ n4_ n5_
      refine start_ (n := 5) (S := fun w' => w'.cell? ⟨gb508, 0, none⟩ = some (.int .i64 t503) ∧ w'.cell? ⟨gb508, 1, none⟩ = some (.int .i64 t504) ∧ w'.cell? ⟨gb508, 2, none⟩ = some (.slice Ao24 t505.length co24) ∧ w'.cell? ⟨gb492, 0, none⟩ = some (.int .i64 a0_0) ∧ w'.cell? ⟨gb492, 1, none⟩ = some (.int .i64 a0_1) ∧ w'.cell? ⟨gb492, 2, none⟩ = some (.slice A0_2 l0_2.length c0_2)) (ds := []) #[false, false, false, false, false] (by kernel_rfl) rfl rfl ⟨(blk_cell BK508.out 0).trans rfl, (blk_cell BK508.out 1).trans rfl, (blk_cell BK508.out 2).trans rfl, (blk_cell BK492.out 0).trans rfl, (blk_cell BK492.out 1).trans rfl, (blk_cell BK492.out 2).trans rfl⟩ (fun hHeld => ?_)
      generalize wc.drew = w39 at HO_4 HO_7 HO_509002 BK492 BK508 HB hHeld ⊢
      refine take_ (i := 0) (N := some 41) (v := ?_) (a' := ?_) #[true, false, false, false, false] rfl rfl (by kernel_rfl) (fun _ _ _ h => h) (Or.inl ⟨by rfl, ?_⟩) hHeld ?_ ?_
      rotate_left; (· (rintro w' ⟨s0, s1, s2, s3, s4, s5⟩; go_simp; with_reducible rfl)); rotate_left; (· (simp only [Act.put, sz_, s0_, s1_, i64_w, i32_w]; rfl))
      refine take_ (i := 1) (N := some 42) (v := ?_) (a' := ?_) #[true, true, false, false, false] rfl rfl (by kernel_rfl) (fun _ _ _ h => h) (Or.inl ⟨by rfl, ?_⟩) hHeld ?_ ?_
      rotate_left; (· (rintro w' ⟨s0, s1, s2, s3, s4, s5⟩; go_simp; with_reducible rfl)); rotate_left; (· (simp only [Act.put, sz_, s0_, s1_, i64_w, i32_w]; rfl))
      refine one_ (i := 2) (N := some 43) #[true, true, true, false, false] rfl rfl (by kernel_rfl) (by decide) (fun K hK => ?_)
      refine goes_ Try.func17 (by kernel_rfl) rfl #[.agg #[.int .i64 a0_0, .int .i64 a0_1, .slice A0_2 l0_2.length c0_2]] (by rfl) rfl rfl (by (try simp only [List.map_toArray, List.map_cons, List.map_nil]); first | done | rfl | (simp only [List.length_drop, List.length_take]; rfl)) ?_
      with_reducible refine (laws_toSea.calls kj10 a0_0 a0_1 _ _ l0_2 t514 t515 t516 _ ?side1 ?side2 A34.out).mono ?_
      (case side1 => repeat (first | exact (Kd.C_below HR0_2.out HB.out) | (with_reducible refine Kd.C_alloc ?_ _) | (with_reducible refine Kd.C_drewN ?_ _) | (with_reducible refine Kd.C_drew ?_)))
      (case side2 => exact HC0_2.out)
      rintro e w40 ⟨v517, rfl, ho0, hb⟩
      refine ⟨_, rfl, ?_⟩
      have n0_ := Aside0.mk (Kd.V_elder' (by (with_reducible repeat (first | apply Kd.V_alloc | apply Kd.V_drewN | apply Kd.V_drew)); exact HO_4.out) (Kd.R_base ho0) hb)
      have n1_ := Aside0.mk (Kd.S_elder' (by (with_reducible repeat (first | apply Kd.S_alloc | apply Kd.S_drewN | apply Kd.S_drew)); exact HO_7.out) (Kd.R_base ho0) hb)
      have n2_ := Aside0.mk (Kd.R_elder' (by (with_reducible repeat (first | apply Kd.R_alloc | apply Kd.R_drewN | apply Kd.R_drew)); exact HO_509002.out) (Kd.R_base ho0) hb)
      have n3_ := Aside0.mk (Kd.R_lower (Kd.R_new' ho0 (Kd.R_lt (by (with_reducible repeat (first | apply Kd.R_alloc | apply Kd.R_drewN | apply Kd.R_drew)); exact HO_509002.out))) (below_size (by repeat (first | (with_reducible first | exact HB.out | apply below_alloc | apply pw_below_drewN | apply below_drew1 | refine below_set ?_ GE492.out | refine below_set ?_ GE508.out) | exact HB.out))))
      have n4_ := Aside0.mk (blk_below (g := gb492) (o := .cells #[.int .i64 a0_0, .int .i64 a0_1, .slice A0_2 l0_2.length c0_2] 24 (0, 0)) (by (with_reducible repeat (first | refine blk_drewN ?_ _ | refine blk_drew ?_ | refine blk_alloc ?_ _)); exact BK492.out) hb)
      have n5_ := Aside0.mk (blk_below (g := gb508) (o := .cells #[.int .i64 t503, .int .i64 t504, .slice Ao24 t505.length co24] 28 (0, 0)) (by (with_reducible repeat (first | refine blk_drewN ?_ _ | refine blk_drew ?_ | refine blk_alloc ?_ _)); exact BK508.out) hb)
      have n6_ := Aside0.mk (below_step (by repeat (first | (with_reducible first | exact HB.out | apply below_alloc | apply pw_below_drewN | apply below_drew1 | refine below_set ?_ GE492.out | refine below_set ?_ GE508.out) | exact HB.out)) hb)
      clear HO_4
      clear HO_7
      clear HO_509002
      clear BK492
      clear BK508
      clear HB
      have HO_4 := n0_
      have HO_7 := n1_
      have HO_509002 := n2_
      have HO518 := n3_
      have BK492 := n4_
      have BK508 := n5_
      have HB := n6_
      clear n0_ n1_ n2_ n3_ n4_ n5_ n6_
      (try clear hb)
      (try clear hb2)
      (try clear hk)
      (try clear hi)
      (try clear ho0)
      obtain ⟨Ao41, co41, eo41⟩ := Kd.R_slice HO518.out
      (first | subst eo41 | (injection eo41 with f1_ f2_ f3_; have f4_ := f1_.symm; have f5_ := f3_.symm; clear f1_ f2_ f3_; subst f4_; subst f5_))
      refine hK.out _ _ ⟨(blk_cell BK508.out 0).trans rfl, (blk_cell BK508.out 1).trans rfl, (blk_cell BK508.out 2).trans rfl, (blk_cell BK492.out 0).trans rfl, (blk_cell BK492.out 1).trans rfl, (blk_cell BK492.out 2).trans rfl⟩ (fun hHeld => ?_)
      clear hK K
      refine norm_ (a' := ?_) ?_ ?_
      rotate_left
      ·show Act.put _ (some 43) _ = _
       simp only [Act.put, sz_, s0_, s1_, i64_w, i32_w]
       rfl
      refine one_ (i := 3) (N := some 44) #[true, true, true, true, false] rfl rfl (by kernel_rfl) (by decide) (fun K hK => ?_)
      refine goes_ Try.func20 (by kernel_rfl) rfl #[.agg #[.int .i64 t503, .int .i64 t504, .slice Ao24 t505.length co24], .agg #[.int .i64 t514, .int .i64 t515, .slice Ao41 t516.length co41]] (by rfl) rfl rfl (by (try simp only [List.map_toArray, List.map_cons, List.map_nil]); first | done | rfl | (simp only [List.length_drop, List.length_take]; rfl)) ?_
      with_reducible refine (laws_eqSea.calls kj10 t503 t504 _ _ t505 t514 t515 _ _ t516 true _ ?side1 ?side2 ?side3 ?side4 A35.out).mono ?_
      (case side1 => repeat (first | exact (Kd.R_reads' HO_509002.out).2.2 | (with_reducible refine Kd.C_alloc ?_ _) | (with_reducible refine Kd.C_drewN ?_ _) | (with_reducible refine Kd.C_drew ?_)))
      (case side2 => exact (Kd.R_reads' HO_509002.out).2.1)
      (case side3 => repeat (first | exact (Kd.R_reads' HO518.out).2.2 | (with_reducible refine Kd.C_alloc ?_ _) | (with_reducible refine Kd.C_drewN ?_ _) | (with_reducible refine Kd.C_drew ?_)))
      (case side4 => exact (Kd.R_reads' HO518.out).2.1)
      rintro e w42 ⟨rfl, hb⟩
      refine ⟨_, rfl, ?_⟩
      have n0_ := Aside0.mk (Kd.V_below (by (with_reducible repeat (first | apply Kd.V_alloc | apply Kd.V_drewN | apply Kd.V_drew)); exact HO_4.out) hb)
      have n1_ := Aside0.mk (Kd.S_below (by (with_reducible repeat (first | apply Kd.S_alloc | apply Kd.S_drewN | apply Kd.S_drew)); exact HO_7.out) hb)
      have n2_ := Aside0.mk (Kd.R_below (by (with_reducible repeat (first | apply Kd.R_alloc | apply Kd.R_drewN | apply Kd.R_drew)); exact HO_509002.out) hb)
      have n3_ := Aside0.mk (Kd.R_below (by (with_reducible repeat (first | apply Kd.R_alloc | apply Kd.R_drewN | apply Kd.R_drew)); exact HO518.out) hb)
      have n4_ := Aside0.mk (blk_below (g := gb492) (o := .cells #[.int .i64 a0_0, .int .i64 a0_1, .slice A0_2 l0_2.length c0_2] 24 (0, 0)) (by (with_reducible repeat (first | refine blk_drewN ?_ _ | refine blk_drew ?_ | refine blk_alloc ?_ _)); exact BK492.out) hb)
      have n5_ := Aside0.mk (blk_below (g := gb508) (o := .cells #[.int .i64 t503, .int .i64 t504, .slice Ao24 t505.length co24] 28 (0, 0)) (by (with_reducible repeat (first | refine blk_drewN ?_ _ | refine blk_drew ?_ | refine blk_alloc ?_ _)); exact BK508.out) hb)
      have n6_ := Aside0.mk (below_step (by repeat (first | (with_reducible first | exact HB.out | apply below_alloc | apply pw_below_drewN | apply below_drew1 | refine below_set ?_ GE492.out | refine below_set ?_ GE508.out) | exact HB.out)) hb)
      clear HO_4
      clear HO_7
      clear HO_509002
      clear HO518
      clear BK492
      clear BK508
      clear HB
      have HO_4 := n0_
      have HO_7 := n1_
      have HO_509002 := n2_
      have HO518 := n3_
      have BK492 := n4_
      have BK508 := n5_
      have HB := n6_
      clear n0_ n1_ n2_ n3_ n4_ n5_ n6_
      (try clear hb)
      (try clear hb2)
      (try clear hk)
      (try clear hi)
      refine hK.out _ _ ⟨(blk_cell BK508.out 0).trans rfl, (blk_cell BK508.out 1).trans rfl, (blk_cell BK508.out 2).trans rfl, (blk_cell BK492.out 0).trans rfl, (blk_cell BK492.out 1).trans rfl, (blk_cell BK492.out 2).trans rfl⟩ (fun hHeld => ?_)
      clear hK K
      refine norm_ (a' := ?_) ?_ ?_
      rotate_left
      ·show Act.put _ (some 44) _ = _
       simp only [Act.put, sz_, s0_, s1_, i64_w, i32_w]
       rfl
      refine pure_ (i := 4) (N := some 45) (v := ?_) (a' := ?_) #[true, true, true, true, true] rfl rfl (by kernel_rfl) (fun _ _ _ h => h) (Or.inl ⟨by rfl, ?_⟩) ?_ ?_
      rotate_left; (· (intro w'; go_simp; with_reducible rfl)); rotate_left; (· (simp only [Act.put, sz_, s0_, s1_, i64_w, i32_w]; rfl))
      refine done_ (by kernel_rfl) ?_
      have hnb43 := NB508_492.out
      have hnc43 := NB492_508.out
      have hcz44_0 : w42.cell? ⟨gb508, 0, none⟩ = some (.int .i64 t503) := (blk_cell BK508.out 0).trans rfl
      have hcz44_1 : w42.cell? ⟨gb508, 1, none⟩ = some (.int .i64 t504) := (blk_cell BK508.out 1).trans rfl
      have hcz44_2 : w42.cell? ⟨gb508, 2, none⟩ = some (.slice Ao24 t505.length co24) := (blk_cell BK508.out 2).trans rfl
      have hfz44_0 := blk_frozen BK508.out 0
      have hfz44_1 := blk_frozen BK508.out 1
      have hfz44_2 := blk_frozen BK508.out 2
      go_upto_region 14 with (first | ((with_reducible refine gate_callee (f := 21) rfl ?_); refine goesA_ (some 48) rfl rfl Try.func21 (by kernel_rfl) rfl #[.agg #[.int .i64 t503, .int .i64 t504, .slice Ao24 t505.length co24], .int .i64 1] rfl ?_; (with_reducible refine (laws_markSea.calls kj10 t503 t504 (fun k_ => some k_ = (.slice Ao24 t505.length co24 : Value).ownBlock) (.slice Ao24 t505.length co24) t505 1 t520 t521 w _ ?side1 ?side2 A37.out).mono ?_); (case side1 => repeat (first | (with_reducible first | exact HB.out | apply below_alloc | apply pw_below_drewN | apply below_drew1 | refine below_set ?_ GE492.out | refine below_set ?_ GE508.out) | exact HB.out)); (case side2 => exact Kd.R_tight rfl HO_509002.out); rintro e w45 ⟨rfl, hy0, hb, hkp⟩; refine ⟨_, rfl, ?_⟩; have n0_ := Aside0.mk (Kd.V_mono (ok' := fun k_ => some k_ ≠ (.slice Ao24 t505.length co24 : Value).ownBlock ∧ some k_ ≠ (.slice Ao41 t516.length co41 : Value).ownBlock ∧ k_ ≠ gb492 ∧ k_ ≠ gb508 ∧ k_ < nq26) (Kd.V_keptB (HO_4.out) hkp (fun k_ hk_ hs_ => (hk_.1.1) hs_)) (fun k_ hk_ => ⟨hk_.1.1.1, hk_.1.2, hk_.1.1.2.1, hk_.1.1.2.2.1, hk_.1.1.2.2.2⟩)); have n1_ := Aside0.mk (Kd.S_mono (ok' := fun k_ => some k_ ≠ (.slice Ao24 t505.length co24 : Value).ownBlock ∧ some k_ ≠ (.slice Ao41 t516.length co41 : Value).ownBlock ∧ nq26 ≤ k_) (Kd.S_keptB (HO_7.out) hkp (fun k_ hk_ hs_ => (hk_.1.1) hs_)) (fun k_ hk_ => ⟨hk_.1.1.1, hk_.1.2, hk_.1.1.2⟩)); have n2_ := Aside0.mk (Kd.R_reok rfl hy0 (fun k_ e_ => HO_509002.out.1 k_ e_)); have n3_ := Aside0.mk (blk_kept (by (with_reducible repeat (first | refine blk_drewN ?_ _ | refine blk_drew ?_ | refine blk_alloc ?_ _)); exact BK492.out) hkp (fun hs_ => (fun e_ => (Kd.R_ne HO_509002.out BK492.out (by decide)) e_) hs_)); have n4_ := Aside0.mk (blk_kept (by (with_reducible repeat (first | refine blk_drewN ?_ _ | refine blk_drew ?_ | refine blk_alloc ?_ _)); exact BK508.out) hkp (fun hs_ => (fun e_ => (Kd.R_ne HO_509002.out BK508.out (by decide)) e_) hs_)); have n5_ := Aside0.mk (Kd.R_mono (ok' := fun k_ => some k_ ≠ (.slice Ao24 t505.length co24 : Value).ownBlock) (Kd.R_keptB (HO518.out) hkp (fun k_ hk_ hs_ => (hk_.2) hs_)) (fun k_ hk_ => hk_.1.2)); have n6_ := Aside0.mk (hb); clear HO_4; clear HO_7; clear HO_509002; clear BK492; clear BK508; clear HO518; clear HB; have HO_4 := n0_; have HO_7 := n1_; have HO_509002 := n2_; have BK492 := n3_; have BK508 := n4_; have HO518 := n5_; have HB := n6_; clear n0_ n1_ n2_ n3_ n4_ n5_ n6_; (try clear hb); (try clear hkp); (try clear hy0)))
      (try simp only [Act.put, List.setIfInBounds_toArray, List.set_cons_zero, List.set_cons_succ])
      go_cut [61] (fun v61 wc => ∃ (kq : Nat) (x61_37 : Bool), v61 = .bool x61_37 ∧ Aside0 (laws_FnExactFleetList.j1 kq t499 t502 t509 x61_37 a0_0 a0_1 l0_2 = some true) ∧ Aside0 (kq ≤ kj10) ∧ Aside0 (Kd.V (Kd.slice 2 (Kd.int .i64)) 22 wc w.heap.size (fun k_ => some k_ ≠ ((.slice Ao24 t505.length co24) : Value).ownBlock ∧ k_ ≠ gb492 ∧ k_ ≠ gb508 ∧ k_ < nq26) v500 t499) ∧ Aside0 (Kd.S (Kd.slice 2 (Kd.int .i64)) 22 wc w.heap.size (fun k_ => some k_ ≠ ((.slice Ao24 t505.length co24) : Value).ownBlock ∧ nq26 ≤ k_) v510 t509) ∧ Aside0 (Kd.R (Kd.int .i64) 2 wc w.heap.size (fun _ => True) (.slice Ao24 t505.length co24) t521) ∧ Aside0 (wc.heap[gb492]? = some (.cells #[.int .i64 a0_0, .int .i64 a0_1, (.slice A0_2 l0_2.length c0_2)] 24 (0, 0))) ∧ Aside0 (wc.heap[gb508]? = some (.cells #[.int .i64 t503, .int .i64 t504, (.slice Ao24 t505.length co24)] 28 (0, 0))) ∧ Aside0 (Below w.heap.size w wc))
      case first =>
       have H := HC38.out
       clear HC38
       by_cases c46 : t520 < 0
       ·rw [if_pos c46] at H
        have c46b0 : decide (t520 < 0) = true := decide_eq_true c46
        clear c46
        (first | rw [c46b0] | (simp only [i64_w, i32_w]; rw [c46b0]) | skip)
        have H' := Aside0.mk H
        clear H
        go_wp2
        go_meet
        case rel => exact ⟨_, (true), (by first | rfl | (simp; done) | (simp [*]; done)), H', ⟨by have := HJ10.out; first | omega | exact Nat.le_refl _⟩, ⟨by (with_reducible repeat (first | apply Kd.V_alloc | apply Kd.V_drewN | apply Kd.V_drew)); exact Kd.V_mono HO_4.out (fun _ hk => ⟨hk.1, ⟨hk.2.2.1, ⟨hk.2.2.2.1, hk.2.2.2.2⟩⟩⟩)⟩, ⟨by (with_reducible repeat (first | apply Kd.S_alloc | apply Kd.S_drewN | apply Kd.S_drew)); exact Kd.S_mono HO_7.out (fun _ hk => ⟨hk.1, hk.2.2⟩)⟩, ⟨by (with_reducible repeat (first | apply Kd.R_alloc | apply Kd.R_drewN | apply Kd.R_drew)); exact Kd.R_mono HO_509002.out (fun _ hk => trivial)⟩, ⟨by (with_reducible repeat (first | refine blk_drewN ?_ _ | refine blk_drew ?_ | refine blk_alloc ?_ _)); exact BK492.out⟩, ⟨by (with_reducible repeat (first | refine blk_drewN ?_ _ | refine blk_drew ?_ | refine blk_alloc ?_ _)); exact BK508.out⟩, ⟨by repeat (first | (with_reducible first | exact HB.out | apply below_alloc | apply pw_below_drewN | apply below_drew1 | refine below_set ?_ GE492.out | refine below_set ?_ GE508.out) | exact HB.out)⟩⟩
       ·rw [if_neg c46] at H
        have c46b0 : decide (t520 < 0) = false := decide_eq_false c46
        clear c46
        (first | rw [c46b0] | (simp only [i64_w, i32_w]; rw [c46b0]) | skip)
        replace H := Option.bind_eq_some_iff.mp H
        obtain ⟨t522, A470, H⟩ := H
        replace H : (if t522 = true then (laws_FnExactFleetList.j1 kj10 t499 t502 t509 (t512 != t502) a0_0 a0_1 l0_2) else (laws_FnExactFleetList.j1 kj10 t499 t502 t509 true a0_0 a0_1 l0_2)) = some true := H
        have A47 := Aside0.mk A470
        clear A470
        by_cases c48 : t522 = true
        ·subst c48
         have H1 : (laws_FnExactFleetList.j1 kj10 t499 t502 t509 (t512 != t502) a0_0 a0_1 l0_2) = some true := by rw [if_pos rfl] at H; exact H
         clear H
         have H := H1
         clear H1
         have H' := Aside0.mk H
         clear H
         obtain ⟨Ao49, co49, eo49⟩ := Kd.S_slice HO_7.out
         subst eo49
         obtain ⟨Ao50, co50, eo50⟩ := Kd.V_slice HO_4.out
         subst eo50
         go_wp2_with (first | (go_at_call 31; (with_reducible refine (laws_eqInt64SS.calls kj10 _ _ t509 _ _ t499 true _ ?side1 ?side2 ?side3 ?side4 A47.out).mono ?_); (case side1 => repeat (first | exact (Kd.S_reads' HO_7.out).2.2 | (with_reducible refine Kd.C_alloc ?_ _) | (with_reducible refine Kd.C_drewN ?_ _) | (with_reducible refine Kd.C_drew ?_))); (case side2 => exact (Kd.S_reads' HO_7.out).2.1); (case side3 => repeat (first | exact (Kd.V_reads' HO_4.out).2.2 | (with_reducible refine Kd.C_alloc ?_ _) | (with_reducible refine Kd.C_drewN ?_ _) | (with_reducible refine Kd.C_drew ?_))); (case side4 => exact (Kd.V_reads' HO_4.out).2.1); rintro e w' ⟨rfl, ⟨nd, rfl⟩⟩))
         go_meet
         case rel => exact ⟨_, ((t512 != t502)), (by first | rfl | (simp; done) | (simp [*]; done)), H', ⟨by have := HJ10.out; first | omega | exact Nat.le_refl _⟩, ⟨by (with_reducible repeat (first | apply Kd.V_alloc | apply Kd.V_drewN | apply Kd.V_drew)); exact Kd.V_mono HO_4.out (fun _ hk => ⟨hk.1, ⟨hk.2.2.1, ⟨hk.2.2.2.1, hk.2.2.2.2⟩⟩⟩)⟩, ⟨by (with_reducible repeat (first | apply Kd.S_alloc | apply Kd.S_drewN | apply Kd.S_drew)); exact Kd.S_mono HO_7.out (fun _ hk => ⟨hk.1, hk.2.2⟩)⟩, ⟨by (with_reducible repeat (first | apply Kd.R_alloc | apply Kd.R_drewN | apply Kd.R_drew)); exact Kd.R_mono HO_509002.out (fun _ hk => trivial)⟩, ⟨by (with_reducible repeat (first | refine blk_drewN ?_ _ | refine blk_drew ?_ | refine blk_alloc ?_ _)); exact BK492.out⟩, ⟨by (with_reducible repeat (first | refine blk_drewN ?_ _ | refine blk_drew ?_ | refine blk_alloc ?_ _)); exact BK508.out⟩, ⟨by repeat (first | (with_reducible first | exact HB.out | apply below_alloc | apply pw_below_drewN | apply below_drew1 | refine below_set ?_ GE492.out | refine below_set ?_ GE508.out) | exact HB.out)⟩⟩
        ·replace c48 := Bool.eq_false_iff.mpr c48
         subst c48
         have H1 : (laws_FnExactFleetList.j1 kj10 t499 t502 t509 true a0_0 a0_1 l0_2) = some true := by rw [if_neg (show ¬ (false = true) by decide)] at H; exact H
         clear H
         have H := H1
         clear H1
         have H' := Aside0.mk H
         clear H
         obtain ⟨Ao51, co51, eo51⟩ := Kd.S_slice HO_7.out
         subst eo51
         obtain ⟨Ao52, co52, eo52⟩ := Kd.V_slice HO_4.out
         subst eo52
         go_wp2_with (first | (go_at_call 31; (with_reducible refine (laws_eqInt64SS.calls kj10 _ _ t509 _ _ t499 false _ ?side1 ?side2 ?side3 ?side4 A47.out).mono ?_); (case side1 => repeat (first | exact (Kd.S_reads' HO_7.out).2.2 | (with_reducible refine Kd.C_alloc ?_ _) | (with_reducible refine Kd.C_drewN ?_ _) | (with_reducible refine Kd.C_drew ?_))); (case side2 => exact (Kd.S_reads' HO_7.out).2.1); (case side3 => repeat (first | exact (Kd.V_reads' HO_4.out).2.2 | (with_reducible refine Kd.C_alloc ?_ _) | (with_reducible refine Kd.C_drewN ?_ _) | (with_reducible refine Kd.C_drew ?_))); (case side4 => exact (Kd.V_reads' HO_4.out).2.1); rintro e w' ⟨rfl, ⟨nd, rfl⟩⟩))
         go_meet
         case rel => exact ⟨_, (true), (by first | rfl | (simp; done) | (simp [*]; done)), H', ⟨by have := HJ10.out; first | omega | exact Nat.le_refl _⟩, ⟨by (with_reducible repeat (first | apply Kd.V_alloc | apply Kd.V_drewN | apply Kd.V_drew)); exact Kd.V_mono HO_4.out (fun _ hk => ⟨hk.1, ⟨hk.2.2.1, ⟨hk.2.2.2.1, hk.2.2.2.2⟩⟩⟩)⟩, ⟨by (with_reducible repeat (first | apply Kd.S_alloc | apply Kd.S_drewN | apply Kd.S_drew)); exact Kd.S_mono HO_7.out (fun _ hk => ⟨hk.1, hk.2.2⟩)⟩, ⟨by (with_reducible repeat (first | apply Kd.R_alloc | apply Kd.R_drewN | apply Kd.R_drew)); exact Kd.R_mono HO_509002.out (fun _ hk => trivial)⟩, ⟨by (with_reducible repeat (first | refine blk_drewN ?_ _ | refine blk_drew ?_ | refine blk_alloc ?_ _)); exact BK492.out⟩, ⟨by (with_reducible repeat (first | refine blk_drewN ?_ _ | refine blk_drew ?_ | refine blk_alloc ?_ _)); exact BK508.out⟩, ⟨by repeat (first | (with_reducible first | exact HB.out | apply below_alloc | apply pw_below_drewN | apply below_drew1 | refine below_set ?_ GE492.out | refine below_set ?_ GE508.out) | exact HB.out)⟩⟩
      case rest =>
       clear HC38
       (try clear c1); (try clear c2); (try clear p2); (try clear q2); (try clear c3); (try clear c3b0); (try clear c4); (try clear c6); (try clear c15); (try clear c17); (try clear c20); (try clear c21); (try clear c22); (try clear q26); (try clear c28); (try clear c29); (try clear c30); (try clear c31); (try clear c33); (try clear c36); (try clear c43); (try clear c46); (try clear c46b0); (try clear c48); (try clear hcz13_0); (try clear hcz13_1); (try clear hcz13_2); (try clear hcz15_0); (try clear hcz15_1); (try clear hcz15_2); (try clear hcz19_0); (try clear hcz19_1); (try clear hcz19_2); (try clear hcz23_0); (try clear hcz23_1); (try clear hcz23_2); (try clear hcz44_0); (try clear hcz44_1); (try clear hcz44_2); (try clear hcz5_0); (try clear hcz5_1); (try clear hcz5_2); (try clear hfz13_0); (try clear hfz13_1); (try clear hfz13_2); (try clear hfz15_0); (try clear hfz15_1); (try clear hfz15_2); (try clear hfz19_0); (try clear hfz19_1); (try clear hfz19_2); (try clear hfz23_0); (try clear hfz23_1); (try clear hfz23_2); (try clear hfz44_0); (try clear hfz44_1); (try clear hfz44_2); (try clear hfz5_0); (try clear hfz5_1); (try clear hfz5_2); (try clear p2); (try clear q2); (try clear q26)
       obtain ⟨kq, x61_37, rfl, HA, HJ37, HO_4, HO_7, HO_509002, BK492, BK508, HB⟩ := hcut
       have hl509002_37 := (Kd.R_reads' HO_509002.out).1
       rw [hl509002_37] at HO_509002
       (try simp only [hl509002_37])
       (try simp only [hl509002_37] at BK492)
       (try simp only [hl509002_37] at BK508)
       (try simp only [hl509002_37] at HO_4)
       (try simp only [hl509002_37] at HO_7)
       cases kq with
       | zero => exact absurd HA.out (by simp [laws_FnExactFleetList.j1])
       | succ kj37 =>
        have H := HA.out
        clear HA
        simp only [laws_FnExactFleetList.j1] at H
        by_cases c53 : x61_37 = true
        ·subst c53
         have H1 : (some false) = some true := by rw [if_pos rfl] at H; exact H
         clear H
         have H := H1
         clear H1
         exact absurd H (by simp)
        ·replace c53 := Bool.eq_false_iff.mpr c53
         subst c53
         have H1 : ((laws_markInt64SS.f kj37 t509 1).bind fun bt523 => ((laws_heldInt64SS.f kj37 bt523.2 1).bind fun t525 => (if t525 < 0 then (some false) else (if t525 = bt523.1 then ((laws_toSea.f kj37 a0_0 a0_1 l0_2).bind fun bt526 => ((impl_FleetList.f kj37 bt526.1 bt526.2.1 bt526.2.2).bind fun bt531 => ((laws_eqInt64SS.f kj37 bt531.1 t499).bind fun t535 => (if t535 = true then (laws_FnExactFleetList.j2 kj37 bt523.2 bt523.1 (bt531.2 != t502)) else (laws_FnExactFleetList.j2 kj37 bt523.2 bt523.1 true))))) else (some false))))) = some true := by rw [if_neg (show ¬ (false = true) by decide)] at H; exact H
         clear H
         have H := H1
         clear H1
         replace H := Option.bind_eq_some_iff.mp H
         obtain ⟨⟨t523, t524⟩, A540, H⟩ := H
         replace H : ((laws_heldInt64SS.f kj37 t524 1).bind fun t525 => (if t525 < 0 then (some false) else (if t525 = t523 then ((laws_toSea.f kj37 a0_0 a0_1 l0_2).bind fun bt526 => ((impl_FleetList.f kj37 bt526.1 bt526.2.1 bt526.2.2).bind fun bt531 => ((laws_eqInt64SS.f kj37 bt531.1 t499).bind fun t535 => (if t535 = true then (laws_FnExactFleetList.j2 kj37 t524 t523 (bt531.2 != t502)) else (laws_FnExactFleetList.j2 kj37 t524 t523 true))))) else (some false)))) = some true := H
         have A54 := Aside0.mk A540
         clear A540
         replace H := Option.bind_eq_some_iff.mp H
         obtain ⟨t525, A550, H⟩ := H
         replace H : (if t525 < 0 then (some false) else (if t525 = t523 then ((laws_toSea.f kj37 a0_0 a0_1 l0_2).bind fun bt526 => ((impl_FleetList.f kj37 bt526.1 bt526.2.1 bt526.2.2).bind fun bt531 => ((laws_eqInt64SS.f kj37 bt531.1 t499).bind fun t535 => (if t535 = true then (laws_FnExactFleetList.j2 kj37 t524 t523 (bt531.2 != t502)) else (laws_FnExactFleetList.j2 kj37 t524 t523 true))))) else (some false))) = some true := H
         have A55 := Aside0.mk A550
         clear A550
         by_cases c56 : t525 < 0
         ·rw [if_pos c56] at H
          have c56b0 : decide (t525 < 0) = true := decide_eq_true c56
          clear c56
          exact absurd H (by simp)
         ·rw [if_neg c56] at H
          have c56b0 : decide (t525 < 0) = false := decide_eq_false c56
          clear c56
          by_cases c59 : t525 = t523
          ·rw [if_pos c59] at H
           have c59b0 : (t525 == t523) = true := beq_iff_eq.mpr c59
           have c59b1 : (t525 != t523) = false := bne_eq_false_iff_eq.mpr c59
           clear c59
           replace H := Option.bind_eq_some_iff.mp H
           obtain ⟨⟨t526, t527, t528⟩, A600, H⟩ := H
           replace H : ((impl_FleetList.f kj37 t526 t527 t528).bind fun bt531 => ((laws_eqInt64SS.f kj37 bt531.1 t499).bind fun t535 => (if t535 = true then (laws_FnExactFleetList.j2 kj37 t524 t523 (bt531.2 != t502)) else (laws_FnExactFleetList.j2 kj37 t524 t523 true)))) = some true := H
           have A60 := Aside0.mk A600
           clear A600
           replace H := Option.bind_eq_some_iff.mp H
           obtain ⟨⟨t531, t534⟩, A610, H⟩ := H
           replace H : ((laws_eqInt64SS.f kj37 t531 t499).bind fun t535 => (if t535 = true then (laws_FnExactFleetList.j2 kj37 t524 t523 (t534 != t502)) else (laws_FnExactFleetList.j2 kj37 t524 t523 true))) = some true := H
           have A61 := Aside0.mk A610
           clear A610
           have HC62 := Aside0.mk H
           clear H
           obtain ⟨Ao63, co63, eo63⟩ := Kd.S_slice HO_7.out
           subst eo63
           go_upto_region 25 with (first | ((with_reducible refine gate_callee (f := 32) rfl ?_); refine goesA_ (some 64) rfl rfl Try.func32 (by kernel_rfl) rfl #[.slice Ao63 t509.length co63, .int .i64 1] rfl ?_; (with_reducible refine (laws_markInt64SS.calls kj37 (fun k_ => ownS (Kd.slice 2 (Kd.int .i64)) 22 wc (fun k_ => (some k_ ≠ (.slice Ao24 t521.length co24 : Value).ownBlock ∧ nq26 ≤ k_)) k_) (.slice Ao63 t509.length co63) t509 1 t523 t524 w _ ?side1 ?side2 A54.out).mono ?_); (case side1 => repeat (first | (with_reducible first | exact HB.out | apply below_alloc | apply pw_below_drewN | apply below_drew1 | refine below_set ?_ GE492.out | refine below_set ?_ GE508.out) | exact HB.out)); (case side2 => exact S_ownS (HO_7.out)); rintro e w64 ⟨rfl, hy0, hb, hkp⟩; refine ⟨_, rfl, ?_⟩; have n0_ := Aside0.mk (Kd.V_mono (ok' := fun k_ => some k_ ≠ (.slice Ao24 t521.length co24 : Value).ownBlock ∧ k_ ≠ gb492 ∧ k_ ≠ gb508 ∧ k_ < nq26) (Kd.V_keptB ((Kd.V_mono (ok' := fun k_ => (some k_ ≠ (.slice Ao24 t521.length co24 : Value).ownBlock ∧ (k_ ≠ gb492 ∧ (k_ ≠ gb508 ∧ k_ < nq26))) ∧ ¬ ownS (Kd.slice 2 (Kd.int .i64)) 22 wc (fun k_ => (some k_ ≠ (.slice Ao24 t521.length co24 : Value).ownBlock ∧ nq26 ≤ k_)) k_) HO_4.out (fun k_ hk => ⟨hk, fun hp_ => Nat.not_lt.2 (hp_.1.2) (hk.2.2.2)⟩))) hkp (fun k_ hk_ hs_ => (hk_.2) hs_)) (fun k_ hk_ => ⟨hk_.1.1.1, hk_.1.1.2.1, hk_.1.1.2.2.1, hk_.1.1.2.2.2⟩)); have n1_ := Aside0.mk (Kd.S_mono hy0 (fun _ h_ => h_.1)); have n2_ := Aside0.mk (Kd.R_mono (ok' := fun k_ => True) (Kd.R_keptB ((Kd.R_mono (ok' := fun k_ => True ∧ ¬ ownS (Kd.slice 2 (Kd.int .i64)) 22 wc (fun k_ => (some k_ ≠ (.slice Ao24 t521.length co24 : Value).ownBlock ∧ nq26 ≤ k_)) k_) (Kd.R_tight2 rfl HO_509002.out) (fun k_ hk => ⟨hk.2, fun hp_ => (hp_.1.1) hk.1⟩))) hkp (fun k_ hk_ hs_ => (hk_.2) hs_)) (fun k_ hk_ => trivial)); have n3_ := Aside0.mk (blk_kept (by (with_reducible repeat (first | refine blk_drewN ?_ _ | refine blk_drew ?_ | refine blk_alloc ?_ _)); exact BK492.out) hkp (fun hs_ => (fun e_ => ownS_not e_ BK492.out (by decide)) hs_)); have n4_ := Aside0.mk (blk_kept (by (with_reducible repeat (first | refine blk_drewN ?_ _ | refine blk_drew ?_ | refine blk_alloc ?_ _)); exact BK508.out) hkp (fun hs_ => (fun e_ => ownS_not e_ BK508.out (by decide)) hs_)); have n5_ := Aside0.mk (hb); clear HO_4; clear HO_7; clear HO_509002; clear BK492; clear BK508; clear HB; have HO_4 := n0_; have HO_7 := n1_; have HO_509002 := n2_; have BK492 := n3_; have BK508 := n4_; have HB := n5_; clear n0_ n1_ n2_ n3_ n4_ n5_; (try clear hb); (try clear hkp); (try clear hy0)) | ((with_reducible refine gate_callee (f := 33) rfl ?_); refine goesL_ (some 67) rfl rfl Try.func33 (by kernel_rfl) rfl #[.slice Ao63 t524.length co63, .int .i64 1] rfl (by (try simp only [List.map_toArray, List.map_cons, List.map_nil]); first | done | (rw [show t524.length = t509.length from (Kd.S_reads' HO_7.out).1.symm] <;> rfl) | rfl | (simp only [List.length_drop, List.length_take]; rfl)) ?_; (with_reducible refine (laws_heldInt64SS.calls kj37 _ _ t524 1 t525 _ ?side1 ?side2 A55.out).mono ?_); (case side1 => repeat (first | exact (Kd.S_reads' HO_7.out).2.2 | (with_reducible refine Kd.C_alloc ?_ _) | (with_reducible refine Kd.C_drewN ?_ _) | (with_reducible refine Kd.C_drew ?_))); (case side2 => rw [show t524.length = t509.length from (Kd.S_reads' HO_7.out).1.symm]; exact (Kd.S_reads' HO_7.out).2.1); rintro e w' ⟨rfl, ⟨nd, rfl⟩⟩; refine ⟨_, rfl, ?_⟩; have hnb65 := NB492_508.out; have hnc65 := NB508_492.out; have hcz66_0 : w64.cell? ⟨gb492, 0, none⟩ = some (.int .i64 a0_0) := (blk_cell BK492.out 0).trans rfl; have hcz66_1 : w64.cell? ⟨gb492, 1, none⟩ = some (.int .i64 a0_1) := (blk_cell BK492.out 1).trans rfl; have hcz66_2 : w64.cell? ⟨gb492, 2, none⟩ = some (.slice A0_2 l0_2.length c0_2) := (blk_cell BK492.out 2).trans rfl; have hfz66_0 := blk_frozen BK492.out 0; have hfz66_1 := blk_frozen BK492.out 1; have hfz66_2 := blk_frozen BK492.out 2) | ((with_reducible refine gate_callee (f := 17) rfl ?_); refine goesA_ (some 75) rfl rfl Try.func17 (by kernel_rfl) rfl #[.agg #[.int .i64 a0_0, .int .i64 a0_1, .slice A0_2 l0_2.length c0_2]] rfl ?_; (with_reducible refine (laws_toSea.calls kj37 a0_0 a0_1 _ _ l0_2 t526 t527 t528 _ ?side1 ?side2 A60.out).mono ?_); (case side1 => repeat (first | exact (Kd.C_below HR0_2.out (by repeat (first | (with_reducible first | exact HB.out | apply below_alloc | apply pw_below_drewN | apply below_drew1 | refine below_set ?_ GE492.out | refine below_set ?_ GE508.out) | exact HB.out))) | (with_reducible refine Kd.C_alloc ?_ _) | (with_reducible refine Kd.C_drewN ?_ _) | (with_reducible refine Kd.C_drew ?_))); (case side2 => exact HC0_2.out); rintro e w67 ⟨v529, rfl, ho0, hb⟩; refine ⟨_, rfl, ?_⟩; have n0_ := Aside0.mk (Kd.V_elder' (by (with_reducible repeat (first | apply Kd.V_alloc | apply Kd.V_drewN | apply Kd.V_drew)); exact HO_4.out) (Kd.R_base ho0) hb); have n1_ := Aside0.mk (Kd.S_elder' (by (with_reducible repeat (first | apply Kd.S_alloc | apply Kd.S_drewN | apply Kd.S_drew)); exact HO_7.out) (Kd.R_base ho0) hb); have n2_ := Aside0.mk (Kd.R_elder' (by (with_reducible repeat (first | apply Kd.R_alloc | apply Kd.R_drewN | apply Kd.R_drew)); exact HO_509002.out) (Kd.R_base ho0) hb); have n3_ := Aside0.mk (Kd.R_lower (Kd.R_new' ho0 (Kd.R_lt (by (with_reducible repeat (first | apply Kd.R_alloc | apply Kd.R_drewN | apply Kd.R_drew)); exact HO_509002.out))) (below_size (by repeat (first | (with_reducible first | exact HB.out | apply below_alloc | apply pw_below_drewN | apply below_drew1 | refine below_set ?_ GE492.out | refine below_set ?_ GE508.out) | exact HB.out)))); have n4_ := Aside0.mk (blk_below (g := gb492) (o := .cells #[.int .i64 a0_0, .int .i64 a0_1, .slice A0_2 l0_2.length c0_2] 24 (0, 0)) (by (with_reducible repeat (first | refine blk_drewN ?_ _ | refine blk_drew ?_ | refine blk_alloc ?_ _)); exact BK492.out) hb); have n5_ := Aside0.mk (blk_below (g := gb508) (o := .cells #[.int .i64 t503, .int .i64 t504, .slice Ao24 t521.length co24] 28 (0, 0)) (by (with_reducible repeat (first | refine blk_drewN ?_ _ | refine blk_drew ?_ | refine blk_alloc ?_ _)); exact BK508.out) hb); have n6_ := Aside0.mk (below_step (by repeat (first | (with_reducible first | exact HB.out | apply below_alloc | apply pw_below_drewN | apply below_drew1 | refine below_set ?_ GE492.out | refine below_set ?_ GE508.out) | exact HB.out)) hb); clear HO_4; clear HO_7; clear HO_509002; clear BK492; clear BK508; clear HB; have HO_4 := n0_; have HO_7 := n1_; have HO_509002 := n2_; have HO530 := n3_; have BK492 := n4_; have BK508 := n5_; have HB := n6_; clear n0_ n1_ n2_ n3_ n4_ n5_ n6_; (try clear hb); (try clear hb2); (try clear hk); (try clear hi); (try clear ho0); obtain ⟨Ao68, co68, eo68⟩ := Kd.R_slice HO530.out; subst eo68) | ((with_reducible refine gate_callee (f := 30) rfl ?_); refine goesA_ (some 76) rfl rfl Try.func30 (by kernel_rfl) rfl #[.agg #[.int .i64 t526, .int .i64 t527, .slice Ao68 t528.length co68]] rfl ?_; (with_reducible refine (impl_FleetList.calls kj37 t526 t527 _ _ t528 t531 t534 _ ?side1 ?side2 A61.out).mono ?_); (case side1 => repeat (first | exact (Kd.R_reads' HO530.out).2.2 | (with_reducible refine Kd.C_alloc ?_ _) | (with_reducible refine Kd.C_drewN ?_ _) | (with_reducible refine Kd.C_drew ?_))); (case side2 => exact (Kd.R_reads' HO530.out).2.1); rintro e w69 ⟨v532, rfl, ho0, hb⟩; refine ⟨_, rfl, ?_⟩; obtain ⟨nq70, hi⟩ := nq_of hb; have n0_ := Aside0.mk (Kd.V_below (V_ltN (by (with_reducible repeat (first | apply Kd.V_alloc | apply Kd.V_drewN | apply Kd.V_drew)); exact HO_4.out) hi) hb); have n1_ := Aside0.mk (Kd.S_elder' (S_ltN (by (with_reducible repeat (first | apply Kd.S_alloc | apply Kd.S_drewN | apply Kd.S_drew)); exact HO_7.out) hi) (Kd.S_base ho0) hb); have n2_ := Aside0.mk (Kd.R_below (by (with_reducible repeat (first | apply Kd.R_alloc | apply Kd.R_drewN | apply Kd.R_drew)); exact HO_509002.out) hb); have n3_ := Aside0.mk (Kd.R_below (by (with_reducible repeat (first | apply Kd.R_alloc | apply Kd.R_drewN | apply Kd.R_drew)); exact HO530.out) hb); have n4_ := Aside0.mk (Kd.S_lower (Kd.S_new' (Kd.S_new' (Kd.S_new' (S_geN ho0 hi) (Kd.S_lt (by (with_reducible repeat (first | apply Kd.S_alloc | apply Kd.S_drewN | apply Kd.S_drew)); exact HO_7.out))) (Kd.R_lt (by (with_reducible repeat (first | apply Kd.R_alloc | apply Kd.R_drewN | apply Kd.R_drew)); exact HO_509002.out))) (Kd.R_lt (by (with_reducible repeat (first | apply Kd.R_alloc | apply Kd.R_drewN | apply Kd.R_drew)); exact HO530.out))) (below_size (by repeat (first | (with_reducible first | exact HB.out | apply below_alloc | apply pw_below_drewN | apply below_drew1 | refine below_set ?_ GE492.out | refine below_set ?_ GE508.out) | exact HB.out)))); have n5_ := Aside0.mk (blk_below (g := gb492) (o := .cells #[.int .i64 a0_0, .int .i64 a0_1, .slice A0_2 l0_2.length c0_2] 24 (0, 0)) (by (with_reducible repeat (first | refine blk_drewN ?_ _ | refine blk_drew ?_ | refine blk_alloc ?_ _)); exact BK492.out) hb); have n6_ := Aside0.mk (blk_below (g := gb508) (o := .cells #[.int .i64 t503, .int .i64 t504, .slice Ao24 t521.length co24] 28 (0, 0)) (by (with_reducible repeat (first | refine blk_drewN ?_ _ | refine blk_drew ?_ | refine blk_alloc ?_ _)); exact BK508.out) hb); have n7_ := Aside0.mk (below_step (by repeat (first | (with_reducible first | exact HB.out | apply below_alloc | apply pw_below_drewN | apply below_drew1 | refine below_set ?_ GE492.out | refine below_set ?_ GE508.out) | exact HB.out)) hb); clear HO_4; clear HO_7; clear HO_509002; clear HO530; clear BK492; clear BK508; clear HB; have HO_4 := n0_; have HO_7 := n1_; have HO_509002 := n2_; have HO530 := n3_; have HO533 := n4_; have BK492 := n5_; have BK508 := n6_; have HB := n7_; clear n0_ n1_ n2_ n3_ n4_ n5_ n6_ n7_; (try clear hb); (try clear hb2); (try clear hk); (try clear hi); (try clear ho0)))
           (try simp only [Act.put, List.setIfInBounds_toArray, List.set_cons_zero, List.set_cons_succ])
           go_cut [87] (fun v87 wc => ∃ (kq : Nat) (x87_61 : Bool), v87 = .bool x87_61 ∧ Aside0 (laws_FnExactFleetList.j2 kq t524 t523 x87_61 = some true) ∧ Aside0 (kq ≤ kj37) ∧ Aside0 (Kd.S (Kd.slice 2 (Kd.int .i64)) 22 wc w.heap.size (fun k_ => some k_ ≠ ((.slice Ao24 t521.length co24) : Value).ownBlock ∧ nq26 ≤ k_ ∧ k_ < nq70) (.slice Ao63 t509.length co63) t524) ∧ Aside0 (Kd.R (Kd.int .i64) 2 wc w.heap.size (fun _ => True) (.slice Ao24 t521.length co24) t521) ∧ Aside0 (wc.heap[gb492]? = some (.cells #[.int .i64 a0_0, .int .i64 a0_1, (.slice A0_2 l0_2.length c0_2)] 24 (0, 0))) ∧ Aside0 (wc.heap[gb508]? = some (.cells #[.int .i64 t503, .int .i64 t504, (.slice Ao24 t521.length co24)] 28 (0, 0))) ∧ Aside0 (Below w.heap.size w wc))
           case first =>
            have H := HC62.out
            clear HC62
            replace H := Option.bind_eq_some_iff.mp H
            obtain ⟨t535, A710, H⟩ := H
            replace H : (if t535 = true then (laws_FnExactFleetList.j2 kj37 t524 t523 (t534 != t502)) else (laws_FnExactFleetList.j2 kj37 t524 t523 true)) = some true := H
            have A71 := Aside0.mk A710
            clear A710
            by_cases c72 : t535 = true
            ·subst c72
             have H1 : (laws_FnExactFleetList.j2 kj37 t524 t523 (t534 != t502)) = some true := by rw [if_pos rfl] at H; exact H
             clear H
             have H := H1
             clear H1
             have H' := Aside0.mk H
             clear H
             obtain ⟨Ao73, co73, eo73⟩ := Kd.S_slice HO533.out
             subst eo73
             obtain ⟨Ao74, co74, eo74⟩ := Kd.V_slice HO_4.out
             subst eo74
             go_wp2_with (first | ((with_reducible refine gate_callee (f := 31) rfl ?_); refine goesA_ (some 81) rfl rfl Try.func31 (by kernel_rfl) rfl #[.slice Ao73 t531.length co73, .slice Ao74 t499.length co74] rfl ?_; (with_reducible refine (laws_eqInt64SS.calls kj37 _ _ t531 _ _ t499 true _ ?side1 ?side2 ?side3 ?side4 A71.out).mono ?_); (case side1 => repeat (first | exact (Kd.S_reads' HO533.out).2.2 | (with_reducible refine Kd.C_alloc ?_ _) | (with_reducible refine Kd.C_drewN ?_ _) | (with_reducible refine Kd.C_drew ?_))); (case side2 => exact (Kd.S_reads' HO533.out).2.1); (case side3 => repeat (first | exact (Kd.V_reads' HO_4.out).2.2 | (with_reducible refine Kd.C_alloc ?_ _) | (with_reducible refine Kd.C_drewN ?_ _) | (with_reducible refine Kd.C_drew ?_))); (case side4 => exact (Kd.V_reads' HO_4.out).2.1); rintro e w' ⟨rfl, ⟨nd, rfl⟩⟩; refine ⟨_, rfl, ?_⟩))
             go_meet
             case rel => exact ⟨_, ((t534 != t502)), (by first | rfl | (simp; done) | (simp [*]; done)), H', ⟨by have := HJ10.out; have := HJ37.out; first | omega | exact Nat.le_refl _⟩, ⟨by (try simp only [hl509002_37]); (with_reducible repeat (first | apply Kd.S_alloc | apply Kd.S_drewN | apply Kd.S_drew)); exact Kd.S_mono HO_7.out (fun _ hk => ⟨hk.1.1.1.1, ⟨hk.1.1.1.2, hk.1.2⟩⟩)⟩, ⟨by (try simp only [hl509002_37]); (with_reducible repeat (first | apply Kd.R_alloc | apply Kd.R_drewN | apply Kd.R_drew)); exact Kd.R_mono HO_509002.out (fun _ hk => trivial)⟩, ⟨by (try simp only [hl509002_37]); (with_reducible repeat (first | refine blk_drewN ?_ _ | refine blk_drew ?_ | refine blk_alloc ?_ _)); exact BK492.out⟩, ⟨by (try simp only [hl509002_37]); (with_reducible repeat (first | refine blk_drewN ?_ _ | refine blk_drew ?_ | refine blk_alloc ?_ _)); exact BK508.out⟩, ⟨by repeat (first | (with_reducible first | exact HB.out | apply below_alloc | apply pw_below_drewN | apply below_drew1 | refine below_set ?_ GE492.out | refine below_set ?_ GE508.out) | exact HB.out)⟩⟩
            ·replace c72 := Bool.eq_false_iff.mpr c72
             subst c72
             have H1 : (laws_FnExactFleetList.j2 kj37 t524 t523 true) = some true := by rw [if_neg (show ¬ (false = true) by decide)] at H; exact H
             clear H
             have H := H1
             clear H1
             have H' := Aside0.mk H
             clear H
             obtain ⟨Ao75, co75, eo75⟩ := Kd.S_slice HO533.out
             subst eo75
             obtain ⟨Ao76, co76, eo76⟩ := Kd.V_slice HO_4.out
             subst eo76
             go_wp2_with (first | ((with_reducible refine gate_callee (f := 31) rfl ?_); refine goesA_ (some 81) rfl rfl Try.func31 (by kernel_rfl) rfl #[.slice Ao75 t531.length co75, .slice Ao76 t499.length co76] rfl ?_; (with_reducible refine (laws_eqInt64SS.calls kj37 _ _ t531 _ _ t499 false _ ?side1 ?side2 ?side3 ?side4 A71.out).mono ?_); (case side1 => repeat (first | exact (Kd.S_reads' HO533.out).2.2 | (with_reducible refine Kd.C_alloc ?_ _) | (with_reducible refine Kd.C_drewN ?_ _) | (with_reducible refine Kd.C_drew ?_))); (case side2 => exact (Kd.S_reads' HO533.out).2.1); (case side3 => repeat (first | exact (Kd.V_reads' HO_4.out).2.2 | (with_reducible refine Kd.C_alloc ?_ _) | (with_reducible refine Kd.C_drewN ?_ _) | (with_reducible refine Kd.C_drew ?_))); (case side4 => exact (Kd.V_reads' HO_4.out).2.1); rintro e w' ⟨rfl, ⟨nd, rfl⟩⟩; refine ⟨_, rfl, ?_⟩))
             go_meet
             case rel => exact ⟨_, (true), (by first | rfl | (simp; done) | (simp [*]; done)), H', ⟨by have := HJ10.out; have := HJ37.out; first | omega | exact Nat.le_refl _⟩, ⟨by (try simp only [hl509002_37]); (with_reducible repeat (first | apply Kd.S_alloc | apply Kd.S_drewN | apply Kd.S_drew)); exact Kd.S_mono HO_7.out (fun _ hk => ⟨hk.1.1.1.1, ⟨hk.1.1.1.2, hk.1.2⟩⟩)⟩, ⟨by (try simp only [hl509002_37]); (with_reducible repeat (first | apply Kd.R_alloc | apply Kd.R_drewN | apply Kd.R_drew)); exact Kd.R_mono HO_509002.out (fun _ hk => trivial)⟩, ⟨by (try simp only [hl509002_37]); (with_reducible repeat (first | refine blk_drewN ?_ _ | refine blk_drew ?_ | refine blk_alloc ?_ _)); exact BK492.out⟩, ⟨by (try simp only [hl509002_37]); (with_reducible repeat (first | refine blk_drewN ?_ _ | refine blk_drew ?_ | refine blk_alloc ?_ _)); exact BK508.out⟩, ⟨by repeat (first | (with_reducible first | exact HB.out | apply below_alloc | apply pw_below_drewN | apply below_drew1 | refine below_set ?_ GE492.out | refine below_set ?_ GE508.out) | exact HB.out)⟩⟩
           case rest =>
            clear HC62
            (try clear c1); (try clear c2); (try clear p2); (try clear q2); (try clear c3); (try clear c3b0); (try clear c4); (try clear c5); (try clear c6); (try clear c7); (try clear q7); (try clear c15); (try clear c17); (try clear c20); (try clear c21); (try clear c22); (try clear q26); (try clear c28); (try clear c29); (try clear c30); (try clear c31); (try clear c32); (try clear c33); (try clear c36); (try clear c43); (try clear c46); (try clear c46b0); (try clear c48); (try clear c53); (try clear c56); (try clear c56b0); (try clear c59); (try clear c59b0); (try clear c59b1); (try clear c65); (try clear q70); (try clear c72); (try clear hcz13_0); (try clear hcz13_1); (try clear hcz13_2); (try clear hcz15_0); (try clear hcz15_1); (try clear hcz15_2); (try clear hcz19_0); (try clear hcz19_1); (try clear hcz19_2); (try clear hcz23_0); (try clear hcz23_1); (try clear hcz23_2); (try clear hcz44_0); (try clear hcz44_1); (try clear hcz44_2); (try clear hcz5_0); (try clear hcz5_1); (try clear hcz5_2); (try clear hcz66_0); (try clear hcz66_1); (try clear hcz66_2); (try clear hfz13_0); (try clear hfz13_1); (try clear hfz13_2); (try clear hfz15_0); (try clear hfz15_1); (try clear hfz15_2); (try clear hfz19_0); (try clear hfz19_1); (try clear hfz19_2); (try clear hfz23_0); (try clear hfz23_1); (try clear hfz23_2); (try clear hfz44_0); (try clear hfz44_1); (try clear hfz44_2); (try clear hfz5_0); (try clear hfz5_1); (try clear hfz5_2); (try clear hfz66_0); (try clear hfz66_1); (try clear hfz66_2); (try clear p2); (try clear q2); (try clear q26)
            obtain ⟨kq, x87_61, rfl, HA, HJ61, HO_7, HO_509002, BK492, BK508, HB⟩ := hcut
            have hl7_61 := (Kd.S_reads' HO_7.out).1
            rw [hl7_61] at HO_7
            (try simp only [hl7_61])
            (try simp only [hl7_61] at BK492)
            (try simp only [hl7_61] at BK508)
            (try simp only [hl7_61] at HO_509002)
            cases kq with
            | zero => exact absurd HA.out (by simp [laws_FnExactFleetList.j2])
            | succ kj61 =>
             have H := HA.out
             clear HA
             simp only [laws_FnExactFleetList.j2] at H
             by_cases c77 : x87_61 = true
             ·subst c77
              have H1 : (some false) = some true := by rw [if_pos rfl] at H; exact H
              clear H
              have H := H1
              clear H1
              exact absurd H (by simp)
             ·replace c77 := Bool.eq_false_iff.mpr c77
              subst c77
              have H1 : ((laws_heldInt64SS.f kj61 t524 1).bind fun t536 => (if t536 < 0 then (some false) else (if t536 = t523 then (some true) else (some false)))) = some true := by rw [if_neg (show ¬ (false = true) by decide)] at H; exact H
              clear H
              have H := H1
              clear H1
              replace H := Option.bind_eq_some_iff.mp H
              obtain ⟨t536, A780, H⟩ := H
              replace H : (if t536 < 0 then (some false) else (if t536 = t523 then (some true) else (some false))) = some true := H
              have A78 := Aside0.mk A780
              clear A780
              by_cases c79 : t536 < 0
              ·rw [if_pos c79] at H
               have c79b0 : decide (t536 < 0) = true := decide_eq_true c79
               clear c79
               exact absurd H (by simp)
              ·rw [if_neg c79] at H
               have c79b0 : decide (t536 < 0) = false := decide_eq_false c79
               clear c79
               by_cases c80 : t536 = t523
               ·rw [if_pos c80] at H
                have c80b0 : (t536 == t523) = true := beq_iff_eq.mpr c80
                have c80b1 : (t536 != t523) = false := bne_eq_false_iff_eq.mpr c80
                clear c80
                clear H
                go_wp2_with (first | ((with_reducible refine gate_callee (f := 33) rfl ?_); refine goesA_ (some 90) rfl rfl Try.func33 (by kernel_rfl) rfl #[.slice Ao63 t524.length co63, .int .i64 1] rfl ?_; (with_reducible refine (laws_heldInt64SS.calls kj61 _ _ t524 1 t536 _ ?side1 ?side2 A78.out).mono ?_); (case side1 => repeat (first | exact (Kd.S_reads' HO_7.out).2.2 | (with_reducible refine Kd.C_alloc ?_ _) | (with_reducible refine Kd.C_drewN ?_ _) | (with_reducible refine Kd.C_drew ?_))); (case side2 => exact (Kd.S_reads' HO_7.out).2.1); rintro e w' ⟨rfl, ⟨nd, rfl⟩⟩; refine ⟨_, rfl, ?_⟩))
                go_ret
                exact ⟨by first | rfl | (simp [errW_none, errW_some] <;> rfl) | (simp [*, errW_none, errW_some] <;> rfl), by repeat (first | (with_reducible first | exact HB.out | apply below_alloc | apply pw_below_drewN | apply below_drew1 | refine below_set ?_ GE492.out | refine below_set ?_ GE508.out) | exact HB.out)⟩
               ·rw [if_neg c80] at H
                have c80b0 : (t536 == t523) = false := beq_eq_false_iff_ne.mpr c80
                have c80b1 : (t536 != t523) = true := bne_iff_ne.mpr c80
                exact absurd H (by simp)
          ·rw [if_neg c59] at H
           have c59b0 : (t525 == t523) = false := beq_eq_false_iff_ne.mpr c59
           have c59b1 : (t525 != t523) = true := bne_iff_ne.mpr c59
           exact absurd H (by simp)
     ·replace c36 := Bool.eq_false_iff.mpr c36
      subst c36
      have H1 : (some false) = some true := by rw [if_neg (show ¬ (false = true) by decide)] at H; exact H
      clear H
      have H := H1
      clear H1
      exact absurd H (by simp)
-- The verifier's helpers on lists of lists: equality, all lengths together. (for 31)
theorem rdL_get (l : List (List Int)) (i : Nat) (h : i < l.length) : rd_L3 l (i : Int) = l[i] := by
  show l.getD ((i : Int)).toNat [] = l[i]
  rw [Int.toNat_natCast, List.getD_eq_getElem?_getD, List.getElem?_eq_getElem h]; rfl
def sumLen : List (List Int) → Int
  | [] => 0
  | x :: r => x.length + sumLen r
theorem sumLen_nonneg : ∀ l : List (List Int), 0 ≤ sumLen l
  | [] => by simp [sumLen]
  | x :: r => by have := sumLen_nonneg r; unfold sumLen; omega
theorem eqInt64SS_l0 (x y : List (List Int)) (hl : x.length = y.length) (hx : x.length ≤ 9223372036854775807) (hb : ∀ z ∈ x, z.length ≤ 9223372036854775807) : ∀ (d i : Nat), i + d = x.length → x.take i = y.take i → Ev (fun k => laws_eqInt64SS.l0 k x y i) (decide (x = y)) := by
  intro d
  induction d with
  | zero =>
    intro i hi ht
    refine Ev.step (f := fun _ => some (decide (x = y))) (fun k => ?_) (Ev.now _)
    simp only [laws_eqInt64SS.l0]
    rw [if_neg (by omega)]
    have : i = x.length := by omega
    rw [this, List.take_of_length_le (by omega), List.take_of_length_le (by omega)] at ht
    simp [ht]
  | succ d ih =>
    intro i hi ht
    have hlt : i < x.length := by omega
    have hz := eqInt64S_ev x[i] (y[i]'(by omega)) (hb _ (List.getElem_mem hlt))
    by_cases he : x[i] = y[i]'(by omega)
    · rw [decide_eq_true he] at hz
      refine Ev.step (f := fun k => (laws_eqInt64S.f k x[i] (y[i]'(by omega))).bind fun t => if t = true then laws_eqInt64SS.l0 k x y ((i + 1 : Nat) : Int) else some false) (fun k => ?_) (Ev.bind hz (Ev.congr (fun k => by rw [if_pos rfl]) (ih (i + 1) (by omega) ?_)))
      · simp only [laws_eqInt64SS.l0]
        rw [if_pos (by omega), if_pos (by omega), if_pos (by omega), wrap_next hlt (by omega), rdL_get x i hlt, rdL_get y i (by omega)]
      · rw [List.take_succ_eq_append_getElem hlt, List.take_succ_eq_append_getElem (by omega), ht, he]
    · rw [decide_eq_false he] at hz
      have hne : x ≠ y := fun h => he (by subst h; rfl)
      rw [decide_eq_false hne]
      refine Ev.step (f := fun k => (laws_eqInt64S.f k x[i] (y[i]'(by omega))).bind fun t => if t = true then laws_eqInt64SS.l0 k x y ((i + 1 : Nat) : Int) else some false) (fun k => ?_) (Ev.bind hz (Ev.congr (fun k => by rw [if_neg (by simp)]) (Ev.now _)))
      simp only [laws_eqInt64SS.l0]
      rw [if_pos (by omega), if_pos (by omega), if_pos (by omega), wrap_next hlt (by omega), rdL_get x i hlt, rdL_get y i (by omega)]
theorem eqInt64SS_ev (x y : List (List Int)) (hx : x.length ≤ 9223372036854775807) (hb : ∀ z ∈ x, z.length ≤ 9223372036854775807) : Ev (fun k => laws_eqInt64SS.f k x y) (decide (x = y)) := by
  by_cases h : x.length = y.length
  · refine Ev.congr (f := fun k => laws_eqInt64SS.l0 k x y ((0 : Nat) : Int)) (fun k => ?_) (eqInt64SS_l0 x y h hx hb x.length 0 (by omega) (by simp))
    unfold laws_eqInt64SS.f
    rw [if_pos (by omega)]; rfl
  · refine Ev.congr (f := fun _ => some (decide (x = y))) (fun k => ?_) (Ev.now _)
    unfold laws_eqInt64SS.f
    rw [if_neg (by omega)]
    have : x ≠ y := fun e => h (by rw [e])
    simp [this]
theorem eqInt64SS_self (x : List (List Int)) (hx : x.length ≤ 9223372036854775807) (hb : ∀ z ∈ x, z.length ≤ 9223372036854775807) : Ev (fun k => laws_eqInt64SS.f k x x) true := by
  have := eqInt64SS_ev x x hx hb
  simpa using this
-- The reference's list of fleets with a bound. (for 64)
-- goV fold_stuck foldl_all goFleets
theorem fold_most (ok : Int → Bool) (F : Int → Int → List (List Int)) (G : Int → List (List Int)) (m : Int) (hm : 0 ≤ m) (hF : ∀ own rest, 0 ≤ rest → (((G own).length : Int) ≤ rest → F own rest = G own) ∧ (rest < ((G own).length : Int) → rest ≤ ((F own rest).length : Int))) :
    ∀ (P : List Int) (out : List (List Int)), ((((out ++ P.flatMap fun own => if ok own = true then G own else []).length : Nat) : Int) ≤ m → P.foldl (goStep m ok F) out = out ++ P.flatMap fun own => if ok own = true then G own else []) ∧ (m < (((out ++ P.flatMap fun own => if ok own = true then G own else []).length : Nat) : Int) → m ≤ ((P.foldl (goStep m ok F) out).length : Int))
  | [], out => by
    simp only [List.flatMap_nil, List.append_nil, List.foldl_nil]
    exact ⟨fun _ => trivial, fun h => by omega⟩
  | x :: P, out => by
    rw [List.foldl_cons, List.flatMap_cons]
    by_cases hlt : (out.length : Int) < m
    · by_cases hx : ok x = true
      · rw [if_pos hx]
        have e : goStep m ok F out x = out ++ F x (m - (out.length : Int)) := by
          unfold goStep
          rw [if_pos (.inr hlt), if_pos hx, if_neg (by omega)]
        rw [e]
        obtain ⟨f1, f2⟩ := hF x (m - (out.length : Int)) (by omega)
        by_cases ha : ((G x).length : Int) ≤ m - (out.length : Int)
        · rw [f1 ha, ← List.append_assoc]
          exact fold_most ok F G m hm hF P (out ++ G x)
        · have h2 := f2 (by omega)
          have hl : m ≤ ((out ++ F x (m - (out.length : Int))).length : Int) := by rw [List.length_append]; omega
          rw [fold_stuck m ok F (by omega) P _ hl]
          refine ⟨fun h => ?_, fun _ => hl⟩
          rw [List.length_append, List.length_append] at h
          omega
      · rw [if_neg hx, List.nil_append]
        have e : goStep m ok F out x = out := by
          unfold goStep
          rw [if_pos (.inr hlt), if_neg hx]
        rw [e]
        exact fold_most ok F G m hm hF P out
    · have e : goStep m ok F out x = out := by
        unfold goStep
        rw [if_neg (by omega)]
      rw [e, fold_stuck m ok F (by omega) P out (by omega)]
      refine ⟨fun h => ?_, fun _ => by omega⟩
      generalize hr : ((if ok x = true then G x else []) ++ P.flatMap fun own => if ok own = true then G own else []) = r at h ⊢
      rw [List.length_append] at h
      have : r = [] := List.eq_nil_of_length_eq_zero (by omega)
      rw [this, List.append_nil]
theorem goV_most {W H : Nat} (ships : List Int) (T : List S93) : ∀ (d : Nat) (list : List Int) (used m : Int), 0 ≤ m → (((goV W H ships T d list used (-1)).length : Int) ≤ m → goV W H ships T d list used m = goV W H ships T d list used (-1)) ∧ (m < ((goV W H ships T d list used (-1)).length : Int) → m ≤ ((goV W H ships T d list used m).length : Int))
  | 0, list, used, m, hm => ⟨fun _ => rfl, fun h => by unfold goV at h ⊢; split at h <;> simp at h ⊢ <;> omega⟩
  | d + 1, list, used, m, hm => by
    have e : goV W H ships T (d + 1) list used (-1) = [] ++ (placeOf W H ships list.length).flatMap fun own => if goOk ships list own used = true then goV W H ships T d (list ++ [own]) (Go.bits .or .i64 used own) (-1) else [] := by
      show (placeOf W H ships list.length).foldl (goStep (-1) _ _) [] = _
      rw [foldl_all _ _ (-1) (by omega)]
    rw [e]
    exact fold_most _ _ (fun own => goV W H ships T d (list ++ [own]) (Go.bits .or .i64 used own) (-1)) m hm (fun own rest hr => goV_most ships T d (list ++ [own]) _ rest hr) _ []
/-- At most 300 fleets come whole, more are seen to be more. -/
theorem goFleets_most {w h : Int} {l : List Int} (hs : seaV w h l = true) : ((fleetsOf w h l).length ≤ 300 → goFleets w h l [] 301 = fleetsOf w h l) ∧ (¬ (fleetsOf w h l).length ≤ 300 → 300 < (goFleets w h l [] 301).length) := by
  have e := goFleets_none hs
  unfold goFleets at e ⊢
  obtain ⟨h1, h2⟩ := goV_most (W := w.toNat) (H := h.toNat) l [] l.length [] 0 301 (by omega)
  rw [e] at h1 h2
  refine ⟨fun hl => h1 (by omega), fun hl => ?_⟩
  by_cases h3 : (fleetsOf w h l).length = 301
  · rw [h1 (by omega)]; omega
  · have := h2 (by omega); omega
-- The same, for rows of rows.
def countUpSS : Int → List (List Int) → List (List Int)
  | _, [] => []
  | m, x :: r => countUp m x.length :: countUpSS (m + x.length) r
theorem countUpSS_len : ∀ (l : List (List Int)) (m : Int), (countUpSS m l).length = l.length
  | [], _ => rfl
  | x :: r, m => by simp [countUpSS, countUpSS_len r]
theorem markSS_l0 (tot : Int) (hb : tot ≤ 4611686018427387904) : ∀ (r pre : List (List Int)) (m : Int), 0 ≤ m → m + sumLen r = tot → (pre ++ r).length ≤ 4611686018427387904 →
    Ev (fun k => laws_markInt64SS.l0 k (pre ++ r) m (pre.length : Nat)) (tot, pre ++ countUpSS m r) := by
  intro r
  induction r with
  | nil =>
    intro pre m h0 ht hl
    refine Ev.step (f := fun _ => some (tot, pre ++ [])) (fun k => ?_) (Ev.now _)
    simp only [laws_markInt64SS.l0]
    have e : m = tot := by simpa [sumLen] using ht
    rw [if_neg (by simp), e]
  | cons x r ih =>
    intro pre m h0 ht hl
    have hs : sumLen (x :: r) = x.length + sumLen r := rfl
    have hn := sumLen_nonneg r
    have hm := mark_ev m h0 x (by omega)
    have := ih (pre ++ [countUp m x.length]) (m + x.length) (by omega) (by omega) (by simpa using hl)
    have e1 : pre ++ [countUp m x.length] ++ r = (pre ++ x :: r).set pre.length (countUp m x.length) := by simp
    have e2 : pre ++ [countUp m x.length] ++ countUpSS (m + x.length) r = pre ++ countUpSS m (x :: r) := by simp [countUpSS]
    rw [e1, e2] at this
    have hlen : (pre ++ x :: r).length = pre.length + r.length + 1 := by simp; omega
    have w2 : wrap64 ((pre.length : Int) + 1) = (((pre ++ [countUp m x.length]).length : Nat) : Int) := by rw [List.length_append]; unfold wrap64; simp; omega
    refine Ev.step (f := fun k => (laws_markInt64S.f k x m).bind fun r_ => laws_markInt64SS.l0 k ((pre ++ x :: r).set pre.length r_.2) r_.1 (((pre ++ [countUp m x.length]).length : Nat) : Int)) (fun k => ?_) (Ev.bind hm this)
    simp only [laws_markInt64SS.l0]
    rw [if_pos (by omega), if_pos (by omega), Int.toNat_natCast, w2]
    have : (pre ++ x :: r).getD pre.length [] = x := by simp
    rw [this]
theorem markSS_ev (m : Int) (h0 : 0 ≤ m) (l : List (List Int)) (hb : m + sumLen l ≤ 4611686018427387904) (hl : l.length ≤ 4611686018427387904) : Ev (fun k => laws_markInt64SS.f k l m) (m + sumLen l, countUpSS m l) := by
  have := markSS_l0 (m + sumLen l) hb l [] m h0 rfl (by simpa using hl)
  exact this
theorem sumLen_bound : ∀ (l : List (List Int)), (∀ x ∈ l, x.length ≤ 1048576) → sumLen l ≤ l.length * 1048576
  | [], _ => by simp [sumLen]
  | x :: r, h => by
    have h1 := h x (by simp)
    have h2 := sumLen_bound r (fun y hy => h y (List.mem_cons_of_mem _ hy))
    have hs : sumLen (x :: r) = x.length + sumLen r := rfl
    rw [hs, List.length_cons]
    omega
-- needs: 33 (held rows of rows)
theorem heldSS_l0 (tot : Int) (hb : tot ≤ 4611686018427387904) : ∀ (r : List (List Int)) (pre : List (List Int)) (m : Int), 0 ≤ m → m + sumLen r = tot → (pre ++ r).length ≤ 4611686018427387904 →
    Ev (fun k => laws_heldInt64SS.l0 k (pre ++ countUpSS m r) m (pre.length : Nat)) tot := by
  intro r
  induction r with
  | nil =>
    intro pre m h0 ht hl
    refine Ev.step (f := fun _ => some tot) (fun k => ?_) (Ev.now _)
    simp only [laws_heldInt64SS.l0]
    have e : m = tot := by simpa [sumLen] using ht
    rw [if_neg (by simp [countUpSS]), e]
  | cons x r ih =>
    intro pre m h0 ht hl
    have hs : sumLen (x :: r) = x.length + sumLen r := rfl
    have hn := sumLen_nonneg r
    have hm := held_ev m h0 x.length (by omega)
    have hlen : (pre ++ x :: r).length = pre.length + r.length + 1 := by simp; omega
    have := ih (pre ++ [countUp m x.length]) (m + x.length) (by omega) (by omega) (by simpa using hl)
    have e1 : pre ++ [countUp m x.length] ++ countUpSS (m + x.length) r = pre ++ countUpSS m (x :: r) := by simp [countUpSS]
    rw [e1] at this
    have hl2 : (pre ++ countUpSS m (x :: r)).length = pre.length + r.length + 1 := by simp [countUpSS, countUpSS_len]; omega
    have hx : rd_L3 (pre ++ countUpSS m (x :: r)) (pre.length : Nat) = countUp m x.length := by
      rw [rdL_get _ pre.length (by omega)]
      simp [countUpSS]
    have w2 : wrap64 ((pre.length : Int) + 1) = (((pre ++ [countUp m x.length]).length : Nat) : Int) := by rw [List.length_append]; unfold wrap64; simp; omega
    refine Ev.step (f := fun k => (laws_heldInt64S.f k (countUp m x.length) m).bind fun t => if t < 0 then some (-1) else laws_heldInt64SS.l0 k (pre ++ countUpSS m (x :: r)) t (((pre ++ [countUp m x.length]).length : Nat) : Int)) (fun k => ?_) (Ev.bind hm ?_)
    · simp only [laws_heldInt64SS.l0]
      rw [if_pos (by omega), if_pos (by omega), hx, w2]
    · exact Ev.congr (fun k => by rw [if_neg (by omega)]) this
theorem heldSS_ev (m : Int) (h0 : 0 ≤ m) (l : List (List Int)) (hb : m + sumLen l ≤ 4611686018427387904) (hl : l.length ≤ 4611686018427387904) : Ev (fun k => laws_heldInt64SS.f k (countUpSS m l) m) (m + sumLen l) :=
  heldSS_l0 (m + sumLen l) hb l [] m h0 rfl (by simpa using hl)
/-- The one pure statement of laws_FnExactFleetList. -/
def laws_FnExactFleetList.Pure : Prop := ∀ (a0_0 : Int) (a0_1 : Int) (l0_2 : List Int), (Lit.int .i64 a0_0).wf = true → (Lit.int .i64 a0_1).wf = true → (l0_2.length ≤ maxLen ∧ ∀ y5_ ∈ l0_2, (Lit.int .i64 y5_).wf = true) → ∃ k, laws_FnExactFleetList.f k a0_0 a0_1 l0_2 = some true
/-- A type's readings as data are values of a kind: what an argument of that type is, whatever it holds. -/
def Rdb {α : Type} (P : Program) (t : TypeId) (d : Kd α) (wf : α → Prop) : Prop :=
  ∀ (H : Type) (enc : TypeId × Value → H) (w : World) (base : Nat) (spare : Nat → Bool) (held : Bool) (fuel : Nat) (cs : List Value) (x : DataW H × List MemPlace),
    DataW.trod enc P w base spare held fuel t cs = some x → ∃ a : α, d.K w a cs ∧ wf a
theorem Rdb.int {P : Program} {t : TypeId} {k : IntKind} (ht : P.underlying t = some (.int k)) : Rdb P t (Kd.int k) (fun n => (Lit.int k n).wf = true) := by
  intro H enc w base spare held fuel cs x h
  obtain ⟨n, rfl, _, hw⟩ := DataW.trod_int ht h
  exact ⟨n, rfl, hw⟩
theorem Rdb.bool {P : Program} {t : TypeId} (ht : P.underlying t = some .bool) : Rdb P t Kd.bool (fun _ => True) := by
  intro H enc w base spare held fuel cs x h
  obtain ⟨n, rfl, _⟩ := DataW.trod_bool ht h
  exact ⟨n, rfl, trivial⟩
theorem Rdb.string {P : Program} {t : TypeId} (ht : P.underlying t = some .string) : Rdb P t Kd.string (fun s => s.size ≤ maxLen) := by
  intro H enc w base spare held fuel cs x h
  obtain ⟨s, rfl, _, hs⟩ := DataW.trod_string ht h
  exact ⟨s, rfl, hs⟩
theorem list_choose {α β : Type} {R : Nat → α → β → Prop} : ∀ (n : Nat) (xs : List α), xs.length = n → (∀ i x, xs[i]? = some x → ∃ y, R i x y) → ∃ ys : List β, ys.length = n ∧ ∀ i x y, xs[i]? = some x → ys[i]? = some y → R i x y := by
  intro n xs
  induction xs generalizing n R with
  | nil =>
    intro hl _
    exact ⟨[], by simpa using hl, by intro i x y h; simp at h⟩
  | cons x xs ih =>
    intro hl h
    obtain ⟨y, hy⟩ := h 0 x rfl
    obtain ⟨ys, h1, h2⟩ := ih (R := fun i a b => R (i + 1) a b) (n - 1) (by simp at hl; omega) (fun i a hi => h (i + 1) a (by simpa using hi))
    refine ⟨y :: ys, by simp at hl ⊢; omega, fun i a b ha hb => ?_⟩
    cases i with
    | zero =>
      simp at ha hb
      subst ha hb
      exact hy
    | succ i => exact h2 i a b (by simpa using ha) (by simpa using hb)
theorem Rdb.slice {α : Type} {P : Program} {t e : TypeId} {d : Kd α} {wf : α → Prop} (ht : P.underlying t = some (.slice e)) (hc : P.cellsOf e = d.sz) (h1 : 0 < d.sz) (r : Rdb P e d wf) :
    Rdb P t (Kd.slice e d) (fun l => l.length ≤ maxLen ∧ ∀ x ∈ l, wf x) := by
  intro H enc w base spare held fuel cs x h
  rcases DataW.trod_slice ht h with ⟨rfl, _⟩ | ⟨a, len, cap, elems, rest, n, _, rfl, _, hb, hl, hm, hlen, hel, _, _⟩
  · exact ⟨[], ⟨none, 0, rfl, by simp, Kd.C_nil _ _⟩, by simp, by simp⟩
  · have each : ∀ i (y : DataW H × List MemPlace), elems[i]? = some y → ∃ b : α, ∃ c, w.cells? base (a.add (i * P.cellsOf e)) (P.cellsOf e) = some c ∧ d.K w b c ∧ wf b := by
      intro i y hy
      have hi : i < len := by have := (List.getElem?_eq_some_iff.1 hy).1; omega
      have h2 := hel i hi
      rw [hy, Option.bind_eq_some_iff] at h2
      obtain ⟨c, hcs, htr⟩ := h2
      obtain ⟨b, hK, hw⟩ := r H enc w base spare held n c y htr
      exact ⟨b, c, hcs, hK, hw⟩
    obtain ⟨xs, hx1, hx2⟩ := list_choose (R := fun i _ (b : α) => ∃ c, w.cells? base (a.add (i * P.cellsOf e)) (P.cellsOf e) = some c ∧ d.K w b c ∧ wf b) len elems hlen each
    have get : ∀ i b, xs[i]? = some b → ∃ c, w.cells? base (a.add (i * P.cellsOf e)) (P.cellsOf e) = some c ∧ d.K w b c ∧ wf b := by
      intro i b hb'
      have hi : i < elems.length := by have := (List.getElem?_eq_some_iff.1 hb').1; omega
      exact hx2 i _ b (List.getElem?_eq_getElem hi) hb'
    refine ⟨xs, ⟨some a, cap, by rw [hx1], by omega, ?_⟩, by omega, fun b hb' => ?_⟩
    · refine ⟨rfl, by rw [hx1]; unfold maxLen at hm; omega, fun hp => ⟨a, rfl, fun j b hj => ?_⟩⟩
      obtain ⟨c, hcs, hK, _⟩ := get j b hj
      obtain ⟨_, hcl, hcell⟩ := World.cells?_some hcs
      refine ⟨c, by rw [hcl, hc], hK, fun i u hu => ?_⟩
      have hi : i < P.cellsOf e := by have := (List.getElem?_eq_some_iff.1 hu).1; omega
      have := hcell i hi
      rw [hu] at this
      rw [Addr.add_add] at this
      rw [← hc]
      exact this
    · obtain ⟨i, hi⟩ := List.mem_iff_getElem?.1 hb'
      obtain ⟨_, _, _, hw⟩ := get i b hi
      exact hw
theorem Rdb.struct3 {α β γ : Type} {P : Program} {t : TypeId} {f0 f1 f2 : Field} {d0 : Kd α} {d1 : Kd β} {d2 : Kd γ} {w0 : α → Prop} {w1 : β → Prop} {w2 : γ → Prop} (ht : P.underlying t = some (.struct #[f0, f1, f2])) (o0 : f0.offset = 0) (o1 : f1.offset = P.cellsOf f0.type)
    (o2 : f2.offset = P.cellsOf f0.type + P.cellsOf f1.type) (cT : P.cellsOf t = P.cellsOf f0.type + P.cellsOf f1.type + P.cellsOf f2.type)
    (r0 : Rdb P f0.type d0 w0) (r1 : Rdb P f1.type d1 w1) (r2 : Rdb P f2.type d2 w2) : Rdb P t (Kd.pair d0 (Kd.pair d1 d2)) (fun x => w0 x.1 ∧ w1 x.2.1 ∧ w2 x.2.2) := by
  intro H enc w base spare held fuel cs x h
  obtain ⟨xs, n, _, _, hl, hxl, hf⟩ := DataW.trod_struct ht h
  match xs, hxl with
  | [y0, y1, y2], _ =>
    have h0 : DataW.trod enc P w base spare held n f0.type ((cs.drop f0.offset).take (P.cellsOf f0.type)) = some y0 := by simpa using hf 0 f0 rfl
    have h1 : DataW.trod enc P w base spare held n f1.type ((cs.drop f1.offset).take (P.cellsOf f1.type)) = some y1 := by simpa using hf 1 f1 rfl
    have h2 : DataW.trod enc P w base spare held n f2.type ((cs.drop f2.offset).take (P.cellsOf f2.type)) = some y2 := by simpa using hf 2 f2 rfl
    rw [o0, List.drop_zero] at h0
    rw [o1] at h1
    rw [o2, List.take_of_length_le (by rw [List.length_drop, hl, cT]; omega)] at h2
    obtain ⟨a, hK0, hw0⟩ := r0 H enc w base spare held n _ y0 h0
    obtain ⟨b, hK1, hw1⟩ := r1 H enc w base spare held n _ y1 h1
    obtain ⟨c, hK2, hw2⟩ := r2 H enc w base spare held n _ y2 h2
    refine ⟨(a, b, c), ⟨_, _, (List.take_append_drop (P.cellsOf f0.type) cs).symm, hK0, _, _, ?_, hK1, hK2⟩, hw0, hw1, hw2⟩
    rw [← List.drop_drop, List.take_append_drop]
theorem Rdb.iso {α β : Type} {P : Program} {t : TypeId} {d : Kd α} {wf : α → Prop} (r : Rdb P t d wf) (f : β → α) (g : α → β) (hfg : ∀ a, f (g a) = a) : Rdb P t (Kd.iso d f) (fun b => wf (f b)) := by
  intro H enc w base spare held fuel cs x h
  obtain ⟨a, hK, hw⟩ := r H enc w base spare held fuel cs x h
  exact ⟨g a, by show d.K w (f (g a)) cs; rw [hfg]; exact hK, by show wf (f (g a)); rw [hfg]; exact hw⟩
theorem Rdb.of {α : Type} {P : Program} {t : TypeId} {d : Kd α} {wf : α → Prop} (r : Rdb P t d wf) {H : Type} {enc : TypeId × Value → H} {w : World} {base : Nat} {spare : Nat → Bool} {held : Bool} {v : Value} {x : DataW H} {ps : List MemPlace}
    (h : DataW.Trod enc P w base spare held t v x ps) : ∃ a : α, d.K w a v.cells.toList ∧ wf a := by
  obtain ⟨fuel, hf⟩ := h
  exact r H enc w base spare held fuel _ _ hf

end Go.Proofs.Ytiancdhpdjmacaa.F
