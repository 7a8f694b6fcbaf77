-- written by the session's program xp.py over the kit's print program, and by hand; texts joined by pack.py
import Derived.Test.YtiancdhpdjmacaaKFnExactCountAgreeing3
namespace Go.Proofs.Ytiancdhpdjmacaa.F
open Go.RowKit Go.Proofs.YtiancdhpdjmacaaW.PrintWords Go.Proofs.YtiancdhpdjmacaaW.PrintLast Go.Proofs.YtiancdhpdjmacaaW.PrintMore
attribute [local go_sem] max2_int min2_int max_two min_two max_three min_three max_four min_four   -- for this text's walks alone
set_option linter.unusedVariables false
set_option linter.unusedSimpArgs false

/-! ### spec_l09Go: function 64 -/
-- EXTERNAL: by hand
-- spec_l09Agrees spec_l09Placements spec_l01Own
-- goV goV_all
set_option maxHeartbeats 8000000 in
set_option maxRecDepth 100000 in
theorem spec_l09Go.ends (W0 H0 : Nat) (ships : List Int) (A2 : Option Addr) (c2 : Nat) (A3 : Option Addr) (c3 : Nat) (T : List S93) (used most : Int) (list : List Int) (A : Option Addr) (c : Nat) (okL : Nat → Prop) (ka : Nat) (w : World) (hd : list.length = ships.length) (hF : Kd.F (Kd.int .i64) w okL A list.length list) (hc : list.length ≤ c) (hT : Kd.C k93 w A3 T.length T) (hTc : T.length ≤ c3)
    (hag : spec_l09Agrees.f ka list T = some (agFrom list 0 T)) :
    Calls Try.prog 64 #[.agg #[.int .i64 (W0 : Int), .int .i64 (H0 : Int), .slice A2 ships.length c2], .slice A list.length c, .int .i64 used, .slice A3 T.length c3, .int .i64 most] w fun e w' => ∃ v, e = .returned v ∧ Kd.N (Kd.slice 2 (Kd.int .i64)) 22 w' w.heap.size (fun k => okL k ∨ w.heap.size ≤ k) v (goV W0 H0 ships T 0 list used most) ∧ Below w.heap.size w w' := by
  have HB := Aside0.mk (Below.refl w.heap.size w)
  have HF := Aside0.mk hF
  have HLc := Aside0.mk hc
  have HT := Aside0.mk hT
  have HTc := Aside0.mk hTc
  have HAg := Aside0.mk hag
  have hu28 := Try.underlying28
  have heq : ((list.length : Int) == (ships.length : Int)) = true := beq_iff_eq.mpr (by omega)
  have heqn : (list.length == ships.length) = true := beq_iff_eq.mpr (by omega)
  clear hF hc hT hTc hag hd
  unfold goV
  cases hb0 : agFrom list 0 T with
  | true =>
    rw [hb0] at HAg
    rw [if_pos rfl]
    clear hb0
    go_enter Try.func64, Try.ntmps64
    go_wp2_with (first | ((with_reducible refine gate_dst (N := 5) rfl ?_); refine box_event ?hg (N := 5) ?hd (cs := #[.int .i64 (W0 : Int), .int .i64 (H0 : Int), .slice A2 ships.length c2]) (t := 28) ?hr ?_; (case hd => rfl); (case hg => rfl); (case hr => first | (go_simp; done) | (go_simp; rfl)); intro g5 hg5 w1 hbox hb; have HX := Aside0.mk hbox; have HG5 := Aside0.mk (show w.heap.size ≤ g5 by omega); have n1_ := Aside0.mk (Kd.F_below HF.out hb); have n2_ := Aside0.mk (below_step HB.out hb); clear hbox hb hg5 HB HF; have HB := n2_; have HF := n1_; clear n1_ n2_; have hs0 := (blk_cell HX.out 0).trans rfl; have hs1 := (blk_cell HX.out 1).trans rfl; have hs2 := (blk_cell HX.out 2).trans rfl) | (go_at_call 84; refine (spec_l09Agrees.calls ka A c list A3 c3 T _ _ (Kd.F_now HF.out) HLc.out (Kd.C_below HT.out HB.out) HTc.out HAg.out).mono ?_; rintro e w2 ⟨rfl, hd⟩; have hb := hd.below; clear hd; (try clear hs0); (try clear hs1); (try clear hs2); have n0_ := Aside0.mk (blk_below HX.out hb); have n1_ := Aside0.mk (Kd.F_below HF.out hb); have n2_ := Aside0.mk (below_step HB.out hb); clear hb HX HB HF; have HX := n0_; have HB := n2_; have HF := n1_; clear n0_ n1_ n2_; have hs0 := (blk_cell HX.out 0).trans rfl; have hs1 := (blk_cell HX.out 1).trans rfl; have hs2 := (blk_cell HX.out 2).trans rfl) | ((with_reducible refine gate_dst (N := 26) rfl ?_); refine Kd.N_lit (Kd.slice 2 (Kd.int .i64)) (w0 := w) w.heap.size 22 ?hg (N' := 26) ?hd (xs := ([list] : List (List Int))) (inner := [.slice A list.length c]) (ok := fun k => okL k ∨ w.heap.size ≤ k) (okp := okL) ?hr ?hp (fun _ hk => .inl hk) (.inr (below_size HB.out)) HB.out (below_size HB.out) (by simp) ?_; (case hd => rfl); (case hg => rfl); (case hr => first | (go_simp; done) | (go_simp; rfl)); (case hp => exact Reps.one (Kd.FK_slice_mk HLc.out HF.out) (Reps.none _ _)); intro v26 w3 ho hb hg_ hnew_; clear hg_ hnew_; have HN := Aside0.mk ho; have HB3 := Aside0.mk hb; clear ho hb))
    go_ret
    exact ⟨_, rfl, HN.out, HB3.out⟩
  | false =>
    rw [hb0] at HAg
    rw [if_neg (by simp)]
    clear hb0
    go_enter Try.func64, Try.ntmps64
    go_wp2_with (first | ((with_reducible refine gate_dst (N := 5) rfl ?_); refine box_event ?hg (N := 5) ?hd (cs := #[.int .i64 (W0 : Int), .int .i64 (H0 : Int), .slice A2 ships.length c2]) (t := 28) ?hr ?_; (case hd => rfl); (case hg => rfl); (case hr => first | (go_simp; done) | (go_simp; rfl)); intro g5 hg5 w1 hbox hb; have HX := Aside0.mk hbox; have HG5 := Aside0.mk (show w.heap.size ≤ g5 by omega); have n1_ := Aside0.mk (Kd.F_below HF.out hb); have n2_ := Aside0.mk (below_step HB.out hb); clear hbox hb hg5 HB HF; have HB := n2_; have HF := n1_; clear n1_ n2_; have hs0 := (blk_cell HX.out 0).trans rfl; have hs1 := (blk_cell HX.out 1).trans rfl; have hs2 := (blk_cell HX.out 2).trans rfl) | (go_at_call 84; refine (spec_l09Agrees.calls ka A c list A3 c3 T _ _ (Kd.F_now HF.out) HLc.out (Kd.C_below HT.out HB.out) HTc.out HAg.out).mono ?_; rintro e w2 ⟨rfl, hd⟩; have hb := hd.below; clear hd; (try clear hs0); (try clear hs1); (try clear hs2); have n0_ := Aside0.mk (blk_below HX.out hb); have n1_ := Aside0.mk (Kd.F_below HF.out hb); have n2_ := Aside0.mk (below_step HB.out hb); clear hb HX HB HF; have HX := n0_; have HB := n2_; have HF := n1_; clear n0_ n1_ n2_; have hs0 := (blk_cell HX.out 0).trans rfl; have hs1 := (blk_cell HX.out 1).trans rfl; have hs2 := (blk_cell HX.out 2).trans rfl) | ((with_reducible refine gate_dst (N := 27) rfl ?_); refine Kd.N_lit (Kd.slice 2 (Kd.int .i64)) (w0 := w) w.heap.size 22 ?hg (N' := 27) ?hd (xs := ([] : List (List Int))) (inner := []) (ok := fun k => okL k ∨ w.heap.size ≤ k) (okp := okL) ?hr ?hp (fun _ hk => .inl hk) (.inr (below_size HB.out)) HB.out (below_size HB.out) (by simp) ?_; (case hd => rfl); (case hg => rfl); (case hr => first | (go_simp; done) | (go_simp; rfl)); (case hp => exact Reps.none _ _); intro v26 w3 ho hb hg_ hnew_; clear hg_ hnew_; have HN := Aside0.mk ho; have HB3 := Aside0.mk hb; clear ho hb))
    go_ret
    exact ⟨_, rfl, HN.out, HB3.out⟩

def spec_l09Go.T6 : Bool × List (List Nat × List Nat) := (true, [([], []), ([], []), ([1], [1]), ([], []), ([2, 3], [2, 3]), ([4], [4]), ([0, 5], [0, 5]), ([6, 6, 0, 1, 2, 3, 4, 5, 6], [6])])
def spec_l09Go.B6 : List Nat := [0, 0, 2, 0, 14, 30, 63, 127]
theorem spec_l09Go.tab6 : rtab .any (opsOf Try.f64 6) = spec_l09Go.T6 := by kernel_rfl
theorem spec_l09Go.bits6 : waitsOk spec_l09Go.T6.2 spec_l09Go.B6 = true := by kernel_rfl
def spec_l09Go.T14 : Bool × List (List Nat × List Nat) := (true, [([], []), ([], []), ([], []), ([2], [2]), ([], []), ([], []), ([4, 5], [4, 5]), ([6], [6]), ([7], [7]), ([3, 8, 3], [3, 8]), ([], []), ([], []), ([], []), ([11, 12], [11, 12]), ([13], [13]), ([10, 14], [10, 14]), ([], []), ([], []), ([1, 9, 15, 16, 17, 9], [1, 9, 15, 16, 17]), ([0, 18, 18], [0, 18]), ([19, 19, 0, 1, 2, 3, 4, 5, 6, 7, 8, 9, 10, 11, 12, 13, 14, 15, 16, 17, 18, 19], [0, 19])])
def spec_l09Go.B14 : List Nat := [0, 0, 0, 4, 0, 0, 48, 112, 240, 508, 0, 0, 0, 6144, 14336, 31744, 0, 0, 262142, 524287, 1048575]
theorem spec_l09Go.tab14 : rtab .any (opsOf Try.f64 14) = spec_l09Go.T14 := by kernel_rfl
theorem spec_l09Go.bits14 : waitsOk spec_l09Go.T14.2 spec_l09Go.B14 = true := by kernel_rfl

set_option maxHeartbeats 16000000 in
set_option maxRecDepth 100000 in
theorem spec_l09Go.does (W0 H0 : Nat) (ships : List Int) (A2 : Option Addr) (c2 : Nat) (A3 : Option Addr) (c3 : Nat) (T : List S93) (hw : W0 ≤ 5) (hh : H0 ≤ 5) (hs3 : ships.length ≤ 3) (hsc : ships.length ≤ c2) (hTc : T.length ≤ c3)
    (hpf : ∀ j : Nat, j < ships.length → ∃ kp, spec_l09Placements.f kp (W0 : Int) (H0 : Int) ships (rd ships (j : Int)) = some (placeOf W0 H0 ships j))
    (hag : ∀ list : List Int, list.length = ships.length → InPl W0 H0 ships list → ∃ ka, spec_l09Agrees.f ka list T = some (agFrom list 0 T)) :
    ∀ (d : Nat) (list : List Int) (used most : Int) (A : Option Addr) (c : Nat) (okL : Nat → Prop) (w : World), list.length + d = ships.length → InPl W0 H0 ships list → most < 9223372036854775808 → Kd.F (Kd.int .i64) w okL A list.length list → list.length ≤ c → Kd.C k93 w A3 T.length T → Kd.C (Kd.int .i64) w A2 ships.length ships →
    Calls Try.prog 64 #[.agg #[.int .i64 (W0 : Int), .int .i64 (H0 : Int), .slice A2 ships.length c2], .slice A list.length c, .int .i64 used, .slice A3 T.length c3, .int .i64 most] w fun e w' => ∃ v, e = .returned v ∧ Kd.N (Kd.slice 2 (Kd.int .i64)) 22 w' w.heap.size (fun k => okL k ∨ w.heap.size ≤ k) v (goV W0 H0 ships T d list used most) ∧ Below w.heap.size w w' := by
  have HPF := Aside0.mk hpf
  have HAG := Aside0.mk hag
  have HS3 := Aside0.mk hs3
  have HS2 := Aside0.mk hsc
  have HTc := Aside0.mk hTc
  have HPl : Aside0 (∀ j : Nat, (placeOf W0 H0 ships j).length ≤ 100) := ⟨fun j => placesOf_len hw hh⟩
  clear hpf hag hs3 hsc hTc hw hh
  have hu28 := Try.underlying28
  intro d
  induction d with
  | zero =>
    intro list used most A c okL w hd hin hm hF hc hT hS
    obtain ⟨ka, hka⟩ := HAG.out list (by omega) hin
    exact spec_l09Go.ends W0 H0 ships A2 c2 A3 c3 T used most list A c okL ka w (by omega) hF hc hT HTc.out hka
  | succ d ih =>
    intro list used most A c okL w hd hin hm hF hc hT hS
    obtain ⟨ad2, rfl, hsc⟩ := Kd.at_int hS (list.length : Int) (by omega) (by omega)
    rw [Int.toNat_natCast] at hsc
    have HIH := Aside0.mk ih
    have HF := Aside0.mk hF
    have HT := Aside0.mk hT
    have HSh := Aside0.mk hS
    have HLc := Aside0.mk hc
    have HD := Aside0.mk hd
    have HIn0 := Aside0.mk hin
    have HMo := Aside0.mk hm
    obtain ⟨kp, HPf0⟩ := HPF.out list.length (by omega)
    obtain ⟨sh, hsh⟩ : ∃ sh, rd ships (list.length : Int) = sh := ⟨_, rfl⟩
    rw [hsh] at hsc HPf0
    obtain ⟨P, hP⟩ : ∃ P, placeOf W0 H0 ships list.length = P := ⟨_, rfl⟩
    have hPl : P.length ≤ 100 := by rw [← hP]; exact HPl.out _
    rw [hP] at HPf0
    have HPL := Aside0.mk hPl
    have HPf := Aside0.mk HPf0
    have HPm := Aside0.mk (fun (x : Int) (hx : x ∈ P) => show x ∈ placeOf W0 H0 ships list.length by rw [hP]; exact hx)
    obtain ⟨O, hO0, hOs, hOe, hOk, hOl⟩ := go_rows most (fun own => goOk ships list own used) (fun own rest => goV W0 H0 ships T d (list ++ [own]) (Go.bits .or .i64 used own) rest) (100 ^ d) (fun own rest => goV_len W0 H0 ships T HPl.out d _ _ _) P
    have hgoal : goV W0 H0 ships T (d + 1) list used most = O P.length := by rw [← hOe, ← hP]; rfl
    rw [hgoal]
    have HOl : Aside0 (∀ j, j ≤ P.length → (O j).length ≤ 1000000) := ⟨fun j hj => Nat.le_trans (hOl j hj) (Nat.le_trans (Nat.mul_le_mul hPl (Nat.pow_le_pow_right (by omega) (show d ≤ 2 by have := HS3.out; omega))) (by omega))⟩
    have HFl := Aside0.mk (fun own rest => Nat.le_trans (goV_len W0 H0 ships T HPl.out d (list ++ [own]) (Go.bits .or .i64 used own) rest) (Nat.le_trans (Nat.pow_le_pow_right (by omega) (show d ≤ 2 by have := HS3.out; omega)) (show 100 ^ 2 ≤ 10000 by omega)))
    have HO0 := Aside0.mk hO0
    have HOS := Aside0.mk hOs
    have HOK := Aside0.mk hOk
    have HOwn := Aside0.mk (own_val list (by have := HS3.out; omega))
    have HRoom := Aside0.mk (show (list.length + 1) * 8 ≤ 140737488355328 by have := HS3.out; omega)
    have HSc := Aside0.mk hsc
    have hne : ((list.length : Int) == (ships.length : Int)) = false := beq_eq_false_iff_ne.mpr (by omega)
    have hnen : (list.length == ships.length) = false := beq_eq_false_iff_ne.mpr (by omega)
    have qa := eq_true (show (list.length : Int) < (ships.length : Int) by omega)
    have qb := eq_true (show list.length < ships.length by omega)
    have qc := eq_true (show (0 : Int) ≤ (list.length : Int) by omega)
    have HSH := Aside0.mk hsh
    clear hO0 hOs hOe hOk hOl hgoal hP hPl HPf0 hsc hF hc hT hS hd hin hm ih hsh
    go_enter Try.func64, Try.ntmps64
    go_wp2_with (first | ((with_reducible refine gate_dst (N := 5) rfl ?_); refine box_event ?hg (N := 5) ?hd (cs := #[.int .i64 (W0 : Int), .int .i64 (H0 : Int), .slice (some ad2) ships.length c2]) (t := 28) ?hr ?_; (case hd => rfl); (case hg => rfl); (case hr => first | (go_simp; done) | (go_simp; rfl)); intro g5 hg5 w1 hbox hb; have HX := Aside0.mk hbox; have HB := Aside0.mk hb; clear hbox hb hg5; have hs0 := (blk_cell HX.out 0).trans rfl; have hs1 := (blk_cell HX.out 1).trans rfl; have hs2 := (blk_cell HX.out 2).trans rfl) | ((with_reducible refine gate_dst (N := 30) rfl ?_); refine Kd.N_lit (Kd.slice 2 (Kd.int .i64)) (w0 := w1) w1.heap.size 22 ?hg (N' := 30) ?hd (xs := ([] : List (List Int))) (inner := []) (ok := fun k => okL k ∨ w.heap.size ≤ k) (okp := fun _ => False) ?hr ?hp (fun _ hk => hk.elim) (.inr (below_size HB.out)) (Below.refl _ _) (Nat.le_refl _) (by simp) ?_; (case hd => rfl); (case hg => rfl); (case hr => first | (go_simp; done) | (go_simp; rfl)); (case hp => exact Reps.none _ _); intro v30 w3 ho hb hg_ hnew_; clear hg_ hnew_; obtain ⟨A30, c30, e30⟩ := Kd.N_slice ho; subst e30; rw [show (([] : List (List Int)).length) = 0 from rfl] at ho; (try clear hs0); (try clear hs1); (try clear hs2); have HN := Aside0.mk (Kd.N_lower ho (below_size HB.out)); have n1_ := Aside0.mk (blk_below HX.out hb); have n2_ := Aside0.mk (below_step HB.out hb); clear HX HB ho hb; have HX := n1_; have HB := n2_; clear n1_ n2_; have hs0 := (blk_cell HX.out 0).trans rfl; have hs1 := (blk_cell HX.out 1).trans rfl; have hs2 := (blk_cell HX.out 2).trans rfl))
    have HXd := Aside0.mk (blk_drew HX.out)
    have HNd := Aside0.mk (Kd.N_drew HN.out)
    have HBd := Aside0.mk (below_drew1 HB.out)
    have hsd := (HBd.out.cell (World.block_lt_of_cell? _ _ HSc.out)).trans HSc.out
    clear HX HN HB hs0 hs1 hs2
    refine start_ (n := 8) (S := fun w' => w'.cell? ⟨g5, 0, none⟩ = some (.int .i64 (W0 : Int)) ∧ w'.cell? ⟨g5, 1, none⟩ = some (.int .i64 (H0 : Int)) ∧ w'.cell? ⟨g5, 2, none⟩ = some (.slice (some ad2) ships.length c2) ∧ w'.cell? (ad2.add list.length) = some (.int .i64 sh)) (ds := []) #[false, false, false, false, false, false, false, false] (by kernel_rfl) rfl rfl ⟨(blk_cell HXd.out 0).trans rfl, (blk_cell HXd.out 1).trans rfl, (blk_cell HXd.out 2).trans rfl, hsd⟩ (fun hHeld => ?_)
    refine with_tabW spec_l09Go.tab6 spec_l09Go.bits6 (fun HT_ HW_ => ?_)
    generalize hq_ : w3.drew = wd_ at HXd HNd HBd hsd hHeld ⊢
    clear hq_
    refine pure_ (i := 1) (N := some 32) (v := ?_) (a' := ?_) (flg_ 8 2) rfl rfl (any_of HT_.out (by kernel_rfl)) (fun _ _ _ h => h) (Or.inl ⟨by rfl, ?_⟩) ?_ ?_
    rotate_left
    · intro w'
      go_simp
      with_reducible rfl
    rotate_left
    · simp only [Act.put, sz_, s0_, s1_, i64_w, i32_w]
      rfl
    refine pure_ (i := 3) (N := some 34) (v := ?_) (a' := ?_) (flg_ 8 10) rfl rfl (any_of HT_.out (by kernel_rfl)) (fun _ _ _ h => h) (Or.inl ⟨by rfl, ?_⟩) ?_ ?_
    rotate_left
    · intro w'
      go_simp
      with_reducible rfl
    rotate_left
    · simp only [Act.put, sz_, s0_, s1_, i64_w, i32_w]
      rfl
    refine take_ (i := 0) (N := some 31) (v := ?_) (a' := ?_) (flg_ 8 11) rfl rfl (take_ofW HT_.out HW_.out (by kernel_rfl)) (fun _ _ _ h => h) (Or.inl ⟨by rfl, ?_⟩) hHeld ?_ ?_
    rotate_left
    · rintro w' ⟨s0_, s1_, s2_, s3_⟩
      go_simp
      with_reducible rfl
    rotate_left
    · simp only [Act.put, sz_, s0_, s1_, i64_w, i32_w]
      rfl
    refine take_ (i := 2) (N := some 33) (v := ?_) (a' := ?_) (flg_ 8 15) rfl rfl (take_ofW HT_.out HW_.out (by kernel_rfl)) (fun _ _ _ h => h) (Or.inl ⟨by rfl, ?_⟩) hHeld ?_ ?_
    rotate_left
    · rintro w' ⟨s0_, s1_, s2_, s3_⟩
      go_simp
      with_reducible rfl
    rotate_left
    · simp only [Act.put, sz_, s0_, s1_, i64_w, i32_w]
      rfl
    refine pure_ (i := 4) (N := some 35) (v := ?_) (a' := ?_) (flg_ 8 31) rfl rfl (any_of HT_.out (by kernel_rfl)) (fun _ _ _ h => h) (Or.inl ⟨by rfl, ?_⟩) ?_ ?_
    rotate_left
    · intro w'
      go_simp
      with_reducible rfl
    rotate_left
    · simp only [Act.put, sz_, s0_, s1_, i64_w, i32_w]
      rfl
    refine take_ (i := 5) (N := some 36) (v := ?_) (a' := ?_) (flg_ 8 63) rfl rfl (take_ofW HT_.out HW_.out (by kernel_rfl)) (fun _ _ _ h => h) (Or.inl ⟨by rfl, ?_⟩) hHeld ?_ ?_
    rotate_left
    · rintro w' ⟨s0_, s1_, s2_, s3_⟩
      go_simp
      with_reducible rfl
    rotate_left
    · simp only [Act.put, sz_, s0_, s1_, i64_w, i32_w]
      rfl
    refine one_ (i := 6) (N := some 37) (flg_ 8 127) rfl rfl (one_of HT_.out (by kernel_rfl)) (by decide) (fun K hK => ?_)
    refine goes_ Try.func57 (by kernel_rfl) rfl #[.agg #[.int .i64 (W0 : Int), .int .i64 (H0 : Int), .slice (some ad2) ships.length c2], .int .i64 sh] (by rfl) rfl rfl (by (try simp only [List.map_toArray, List.map_cons, List.map_nil]); first | done | rfl) ?_
    refine (spec_l09Placements.calls kp (W0 : Int) (H0 : Int) (some ad2) c2 ships sh P _ (Kd.C_below HSh.out HBd.out) HS2.out HPf.out).mono ?_
    rintro e w5 ⟨v37, rfl, ho, hb⟩
    refine ⟨_, rfl, ?_⟩
    obtain ⟨A13, c13, e13⟩ := Kd.R_slice ho
    subst e13
    have HP := Aside0.mk (Kd.R_lower ho (below_size HBd.out))
    have HX := Aside0.mk (blk_below HXd.out hb)
    have HN := Aside0.mk (Kd.N_below HNd.out hb)
    have hsd2 := (hb.cell (World.block_lt_of_cell? _ _ hsd)).trans hsd
    have HB := Aside0.mk (below_step HBd.out hb)
    clear ho hb HXd HNd HBd hsd
    refine hK.out _ _ ⟨(blk_cell HX.out 0).trans rfl, (blk_cell HX.out 1).trans rfl, (blk_cell HX.out 2).trans rfl, hsd2⟩ (fun hHeld => ?_)
    clear hK K hsd2
    refine norm_ (a' := ?_) ?_ ?_
    rotate_left
    · show Act.put _ (some 37) _ = _
      simp only [Act.put, sz_, s0_, s1_, i64_w, i32_w]
      rfl
    refine pure_ (i := 7) (N := some 13) (v := ?_) (a' := ?_) (flg_ 8 255) rfl rfl (any_of HT_.out (by kernel_rfl)) (fun _ _ _ h => h) (Or.inl ⟨by rfl, ?_⟩) ?_ ?_
    rotate_left
    · intro w'
      go_simp
      with_reducible rfl
    rotate_left
    · simp only [Act.put, sz_, s0_, s1_, i64_w, i32_w]
      rfl
    refine done_ (done_of HT_.out (by kernel_rfl)) ?_
    (try go_wp2_with fail)
    go_loopg [12, 14] P.length (fun gg s12 s14 wr => ∃ (j : Nat) (A12 : Option Addr) (c12 : Nat), j ≤ P.length ∧ P.length - j ≤ gg ∧ s12 = .slice A12 (O j).length c12 ∧ s14 = .int .i64 j ∧ Aside0 (Kd.N (Kd.slice 2 (Kd.int .i64)) 22 wr w.heap.size (fun k => okL k ∨ w.heap.size ≤ k) (.slice A12 (O j).length c12) (O j)) ∧ Aside0 (Kd.R (Kd.int .i64) 2 wr w.heap.size (fun _ => True) (.slice A13 P.length c13) P) ∧ Aside0 (wr.heap[g5]? = some (.cells #[.int .i64 (W0 : Int), .int .i64 (H0 : Int), .slice (some ad2) ships.length c2] 28 (0, 0))) ∧ Aside0 (Below w.heap.size w wr))
    case atStart => exact ⟨0, A30, c30, Nat.zero_le _, by omega, by rw [HO0.out]; rfl, rfl, ⟨by rw [HO0.out]; exact HN.out⟩, HP, HX, HB⟩
    case round =>
      clear HX HN HB HP
      obtain ⟨j, A12, c12, hj, hgj, rfl, rfl, HN, HP, HX, HB⟩ := hrel
      have hs0 := (blk_cell HX.out 0).trans rfl
      have hs1 := (blk_cell HX.out 1).trans rfl
      have hs2 := (blk_cell HX.out 2).trans rfl
      by_cases hlt : j < P.length
      · obtain ⟨adj, eqj, hxj⟩ := Kd.at_int (Kd.R_reads' HP.out).2.2 (j : Int) (by omega) (by omega)
        subst eqj
        rw [Int.toNat_natCast] at hxj
        obtain ⟨own, hown0⟩ : ∃ own, rd P (j : Int) = own := ⟨_, rfl⟩
        have hown : P[j] = own := by rw [← hown0, rd_get P j hlt]
        rw [hown0] at hxj
        have HRd := Aside0.mk hown0
        obtain ⟨ol, hol⟩ : ∃ ol, O j = ol := ⟨_, rfl⟩
        have HOlen := Aside0.mk (show ol.length ≤ 1000000 by rw [← hol]; exact HOl.out j hj)
        rw [hol] at HN ⊢
        have q1 := decide_eq_true (show (j : Int) < (P.length : Int) by omega)
        have q2 := decide_eq_true hlt
        have q3 := eq_true (show (j : Int) < (P.length : Int) by omega)
        have q4 := eq_true (show (0 : Int) ≤ (j : Int) by omega)
        have q5 := eq_true hlt
        have HJ0 := Aside0.mk (show (0 : Int) ≤ (j : Int) by omega)
        have HJ1 := Aside0.mk (show (j : Int) < (P.length : Int) by omega)
        have HJm := Aside0.mk (show P.length - (j + 1) < gk by omega)
        have HJr := Aside0.mk (show j + 1 ≤ P.length by omega)
        have HJs := Aside0.mk (show wrap64 ((j : Int) + 1) = ((j + 1 : Nat) : Int) from wrap_one (a := j) (by have := HPL.out; omega))
        have HLen := Aside0.mk (show (list ++ [own]).length + d = ships.length by have := HD.out; simp; omega)
        have HIn := Aside0.mk (HIn0.out.snoc (HPm.out own (by rw [← hown]; exact List.getElem_mem hlt)))
        clear hown0
        by_cases hneg : most < 0
        · 
          have HOs0 := HOS.out j hlt
          rw [hown, hol] at HOs0
          unfold goStep at HOs0
          rw [if_pos (.inl hneg)] at HOs0
          rw [if_pos hneg] at HOs0
          obtain ⟨rest, hrest⟩ : ∃ rest, most = rest := ⟨_, rfl⟩
          rw [hrest] at HOs0
          have HRest := Aside0.mk (show rest < 9223372036854775808 by have := HMo.out; omega)
          obtain ⟨fls, hfls⟩ : ∃ fls, goV W0 H0 ships T d (list ++ [own]) (Go.bits .or .i64 used own) rest = fls := ⟨_, rfl⟩
          have HFlen := HFl.out own rest
          rw [hfls] at HFlen
          have HFv := Aside0.mk hfls
          simp only [hfls] at HOs0
          have HCap := Aside0.mk (show (ol.length + fls.length) * 24 ≤ 140737488355328 by have := HOlen.out; omega)
          have hr2 := hrest.symm
          clear hrest
          subst hr2
          have m1 := decide_eq_true hneg
          have m2 := eq_true hneg
          have m3 := decide_eq_false (show ¬ (0 : Int) ≤ rest by omega)
          have m4 := decide_eq_false (show ¬ rest ≥ (0 : Int) by omega)
          clear hfls HFlen hown hlt hj hgj hneg
          rcases goOk_cases ships list own used with ⟨hbz, hok⟩ | ⟨hbz, hl0, hok⟩ | ⟨m, hm, hbz, ⟨h1, hok⟩ | ⟨h1, h2, hok⟩ | ⟨h1, h2, hok⟩⟩
          case inl =>
            rw [if_neg (by rw [hok]; simp)] at HOs0
            have HOs := Aside0.mk HOs0
            clear HOs0 hok
            have b1 : (Go.bits .and .i64 own used != 0) = true := bne_iff_ne.mpr hbz
            have b2 : (Go.bits .and .i64 own used == 0) = false := beq_eq_false_iff_ne.mpr hbz
            go_wp2_with fail
            go_quiet (fail)
            go_wp2_with fail
            have hbq := pw_below_drewN (Below.refl wr.heap.size wr) nq
            go_roundg (P.length - (j + 1))
            case measure => exact HJm.out
            case rel => exact ⟨j + 1, A12, c12, HJr.out, Nat.le_refl _, by rw [HOs.out], (by first | rfl | exact congrArg (Value.int .i64) HJs.out), ⟨by rw [HOs.out]; exact Kd.N_below HN.out hbq⟩, ⟨Kd.R_below HP.out hbq⟩, ⟨blk_below HX.out hbq⟩, ⟨below_step HB.out hbq⟩⟩
          case inr.inr.inr.inl =>
            rw [if_neg (by rw [hok]; simp)] at HOs0
            have HOs := Aside0.mk HOs0
            clear HOs0 hok
            have b1 : (Go.bits .and .i64 own used != 0) = false := by rw [hbz]; rfl
            have b2 : (Go.bits .and .i64 own used == 0) = true := by rw [hbz]; rfl
            obtain ⟨adL, eL, k3⟩ := Kd.at_int (Kd.C_below (Kd.F_now HF.out) HB.out) (m : Int) (by omega) (by omega)
            subst eL
            obtain ⟨ad21, e21, k1⟩ := Kd.at_int (Kd.C_below HSh.out HB.out) (list.length : Int) (by omega) (by have := HD.out; omega)
            obtain ⟨ad22, e22, k2⟩ := Kd.at_int (Kd.C_below HSh.out HB.out) (m : Int) (by omega) (by have := HD.out; omega)
            injection e21 with e21
            injection e22 with e22
            subst e21 e22
            rw [Int.toNat_natCast] at k1 k2 k3
            rw [HSH.out] at k1 h1
            have h0 := decide_eq_true (show (0 : Int) < (list.length : Int) by omega)
            have h0n := decide_eq_true (show 0 < list.length by omega)
            have w1_ := eq_true (show (m : Int) < (ships.length : Int) by have := HD.out; omega)
            have w2_ := eq_true (show m < ships.length by have := HD.out; omega)
            have w3_ := eq_true (show (m : Int) < (list.length : Int) by omega)
            have w4_ := eq_true (show m < list.length by omega)
            have w5_ := eq_true (show (0 : Int) ≤ (m : Int) by omega)
            have hn1 : wrap64 ((list.length : Int) - 1) = (m : Int) := by have := HS3.out; have := HD.out; unfold wrap64; omega
            clear hm
            generalize rd ships (m : Int) = s2 at *
            generalize rd list (m : Int) = lx at *
            subst h1
            have h1b := beq_self_eq_true sh
            have h2b := decide_eq_true h2
            have h2c := eq_true h2
            go_wp2_with fail
            go_quiet (fail)
            go_wp2_with fail
            have hbq := pw_below_drewN (Below.refl wr.heap.size wr) nq
            go_roundg (P.length - (j + 1))
            case measure => exact HJm.out
            case rel => exact ⟨j + 1, A12, c12, HJr.out, Nat.le_refl _, by rw [HOs.out], (by first | rfl | exact congrArg (Value.int .i64) HJs.out), ⟨by rw [HOs.out]; exact Kd.N_below HN.out hbq⟩, ⟨Kd.R_below HP.out hbq⟩, ⟨blk_below HX.out hbq⟩, ⟨below_step HB.out hbq⟩⟩
          case' inr.inl =>
            rw [if_pos hok] at HOs0
            have HOs := Aside0.mk HOs0
            clear HOs0 hok
            have b1 : (Go.bits .and .i64 own used != 0) = false := by rw [hbz]; rfl
            have b2 : (Go.bits .and .i64 own used == 0) = true := by rw [hbz]; rfl
            have h0 := decide_eq_false (show ¬ (0 : Int) < (list.length : Int) by omega)
            have h0n := decide_eq_false (show ¬ 0 < list.length by omega)
            clear hl0
            go_wp2_with fail
            go_quiet (fail)
            go_wp2_with fail
          case' inr.inr.inl =>
            rw [if_pos hok] at HOs0
            have HOs := Aside0.mk HOs0
            clear HOs0 hok
            have b1 : (Go.bits .and .i64 own used != 0) = false := by rw [hbz]; rfl
            have b2 : (Go.bits .and .i64 own used == 0) = true := by rw [hbz]; rfl
            obtain ⟨adL, eL, k3⟩ := Kd.at_int (Kd.C_below (Kd.F_now HF.out) HB.out) (m : Int) (by omega) (by omega)
            subst eL
            obtain ⟨ad21, e21, k1⟩ := Kd.at_int (Kd.C_below HSh.out HB.out) (list.length : Int) (by omega) (by have := HD.out; omega)
            obtain ⟨ad22, e22, k2⟩ := Kd.at_int (Kd.C_below HSh.out HB.out) (m : Int) (by omega) (by have := HD.out; omega)
            injection e21 with e21
            injection e22 with e22
            subst e21 e22
            rw [Int.toNat_natCast] at k1 k2 k3
            rw [HSH.out] at k1 h1
            have h0 := decide_eq_true (show (0 : Int) < (list.length : Int) by omega)
            have h0n := decide_eq_true (show 0 < list.length by omega)
            have w1_ := eq_true (show (m : Int) < (ships.length : Int) by have := HD.out; omega)
            have w2_ := eq_true (show m < ships.length by have := HD.out; omega)
            have w3_ := eq_true (show (m : Int) < (list.length : Int) by omega)
            have w4_ := eq_true (show m < list.length by omega)
            have w5_ := eq_true (show (0 : Int) ≤ (m : Int) by omega)
            have hn1 : wrap64 ((list.length : Int) - 1) = (m : Int) := by have := HS3.out; have := HD.out; unfold wrap64; omega
            clear hm
            generalize rd ships (m : Int) = s2 at *
            generalize rd list (m : Int) = lx at *
            have h1b : (sh == s2) = false := beq_eq_false_iff_ne.mpr h1
            go_wp2_with fail
            go_quiet (fail)
            go_wp2_with fail
            clear h1 h1b
          case' inr.inr.inr.inr =>
            rw [if_pos hok] at HOs0
            have HOs := Aside0.mk HOs0
            clear HOs0 hok
            have b1 : (Go.bits .and .i64 own used != 0) = false := by rw [hbz]; rfl
            have b2 : (Go.bits .and .i64 own used == 0) = true := by rw [hbz]; rfl
            obtain ⟨adL, eL, k3⟩ := Kd.at_int (Kd.C_below (Kd.F_now HF.out) HB.out) (m : Int) (by omega) (by omega)
            subst eL
            obtain ⟨ad21, e21, k1⟩ := Kd.at_int (Kd.C_below HSh.out HB.out) (list.length : Int) (by omega) (by have := HD.out; omega)
            obtain ⟨ad22, e22, k2⟩ := Kd.at_int (Kd.C_below HSh.out HB.out) (m : Int) (by omega) (by have := HD.out; omega)
            injection e21 with e21
            injection e22 with e22
            subst e21 e22
            rw [Int.toNat_natCast] at k1 k2 k3
            rw [HSH.out] at k1 h1
            have h0 := decide_eq_true (show (0 : Int) < (list.length : Int) by omega)
            have h0n := decide_eq_true (show 0 < list.length by omega)
            have w1_ := eq_true (show (m : Int) < (ships.length : Int) by have := HD.out; omega)
            have w2_ := eq_true (show m < ships.length by have := HD.out; omega)
            have w3_ := eq_true (show (m : Int) < (list.length : Int) by omega)
            have w4_ := eq_true (show m < list.length by omega)
            have w5_ := eq_true (show (0 : Int) ≤ (m : Int) by omega)
            have hn1 : wrap64 ((list.length : Int) - 1) = (m : Int) := by have := HS3.out; have := HD.out; unfold wrap64; omega
            clear hm
            generalize rd ships (m : Int) = s2 at *
            generalize rd list (m : Int) = lx at *
            subst h1
            have h1b := beq_self_eq_true sh
            have h2b := decide_eq_false h2
            have h2c := eq_false h2
            go_wp2_with fail
            go_quiet (fail)
            go_wp2_with fail
            clear h1b h2 h2b h2c
          all_goals
            (try clear b1 b2)
            (try clear h0 h0n)
            (try clear hn1)
            have hbq := below_drew1 (pw_below_drewN (Below.refl wr.heap.size wr) nq)
            have HXd := Aside0.mk (blk_below HX.out hbq)
            have HNd := Aside0.mk (Kd.N_below HN.out hbq)
            have HBd := Aside0.mk (below_step HB.out hbq)
            have HPd := Aside0.mk (Kd.R_below HP.out hbq)
            have hjd := (hbq.cell (World.block_lt_of_cell? _ _ hxj)).trans hxj
            clear hbq hxj
            (try clear k1)
            (try clear k2)
            (try clear k3)
            clear HX HN HB HP hs0 hs1 hs2
            refine start_ (n := 21) (S := fun w' => w'.cell? ⟨g5, 0, none⟩ = some (.int .i64 (W0 : Int)) ∧ w'.cell? ⟨g5, 1, none⟩ = some (.int .i64 (H0 : Int)) ∧ w'.cell? ⟨g5, 2, none⟩ = some (.slice (some ad2) ships.length c2) ∧ w'.cell? (adj.add j) = some (.int .i64 own)) (ds := []) #[false, false, false, false, false, false, false, false, false, false, false, false, false, false, false, false, false, false, false, false, false] (by kernel_rfl) rfl rfl ⟨(blk_cell HXd.out 0).trans rfl, (blk_cell HXd.out 1).trans rfl, (blk_cell HXd.out 2).trans rfl, hjd⟩ (fun hHeld => ?_)
            refine with_tabW spec_l09Go.tab14 spec_l09Go.bits14 (fun HT_ HW_ => ?_)
            generalize hq_ : (wr.drewN nq).drew = wd_ at HXd HNd HBd HPd hjd hHeld ⊢
            clear hq_
            have HBr := Aside0.mk (Below.refl wd_.heap.size wd_)
            refine pure_ (i := 0) (N := some 98) (v := ?_) (a' := ?_) (flg_ 21 1) rfl rfl (any_of HT_.out (by kernel_rfl)) (fun _ _ _ h => h) (Or.inl ⟨by rfl, ?_⟩) ?_ ?_
            rotate_left
            · intro w'
              go_simp
              with_reducible rfl
            rotate_left
            · simp only [Act.put, sz_, s0_, s1_, i64_w, i32_w]
              rfl
            refine pure_ (i := 2) (N := some 100) (v := ?_) (a' := ?_) (flg_ 21 5) rfl rfl (any_of HT_.out (by kernel_rfl)) (fun _ _ _ h => h) (Or.inl ⟨by rfl, ?_⟩) ?_ ?_
            rotate_left
            · intro w'
              go_simp
              with_reducible rfl
            rotate_left
            · simp only [Act.put, sz_, s0_, s1_, i64_w, i32_w]
              rfl
            refine pure_ (i := 4) (N := some 102) (v := ?_) (a' := ?_) (flg_ 21 21) rfl rfl (any_of HT_.out (by kernel_rfl)) (fun _ _ _ h => h) (Or.inl ⟨by rfl, ?_⟩) ?_ ?_
            rotate_left
            · intro w'
              go_simp
              with_reducible rfl
            rotate_left
            · simp only [Act.put, sz_, s0_, s1_, i64_w, i32_w]
              rfl
            refine pure_ (i := 5) (N := some 103) (v := ?_) (a' := ?_) (flg_ 21 53) rfl rfl (any_of HT_.out (by kernel_rfl)) (fun _ _ _ h => h) (Or.inl ⟨by rfl, ?_⟩) ?_ ?_
            rotate_left
            · intro w'
              go_simp
              with_reducible rfl
            rotate_left
            · simp only [Act.put, sz_, s0_, s1_, i64_w, i32_w]
              rfl
            refine pure_ (i := 10) (N := some 108) (v := ?_) (a' := ?_) (flg_ 21 1077) rfl rfl (any_of HT_.out (by kernel_rfl)) (fun _ _ _ h => h) (Or.inl ⟨by rfl, ?_⟩) ?_ ?_
            rotate_left
            · intro w'
              go_simp
              with_reducible rfl
            rotate_left
            · simp only [Act.put, sz_, s0_, s1_, i64_w, i32_w]
              rfl
            refine pure_ (i := 11) (N := some 109) (v := ?_) (a' := ?_) (flg_ 21 3125) rfl rfl (any_of HT_.out (by kernel_rfl)) (fun _ _ _ h => h) (Or.inl ⟨by rfl, ?_⟩) ?_ ?_
            rotate_left
            · intro w'
              go_simp
              with_reducible rfl
            rotate_left
            · simp only [Act.put, sz_, s0_, s1_, i64_w, i32_w]
              rfl
            refine pure_ (i := 12) (N := some 110) (v := ?_) (a' := ?_) (flg_ 21 7221) rfl rfl (any_of HT_.out (by kernel_rfl)) (fun _ _ _ h => h) (Or.inl ⟨by rfl, ?_⟩) ?_ ?_
            rotate_left
            · intro w'
              go_simp
              with_reducible rfl
            rotate_left
            · simp only [Act.put, sz_, s0_, s1_, i64_w, i32_w]
              rfl
            refine pure_ (i := 16) (N := some 114) (v := ?_) (a' := ?_) (flg_ 21 72757) rfl rfl (any_of HT_.out (by kernel_rfl)) (fun _ _ _ h => h) (Or.inl ⟨by rfl, ?_⟩) ?_ ?_
            rotate_left
            · intro w'
              go_simp
              with_reducible rfl
            rotate_left
            · simp only [Act.put, sz_, s0_, s1_, i64_w, i32_w]
              rfl
            refine pure_ (i := 17) (N := some 115) (v := ?_) (a' := ?_) (flg_ 21 203829) rfl rfl (any_of HT_.out (by kernel_rfl)) (fun _ _ _ h => h) (Or.inl ⟨by rfl, ?_⟩) ?_ ?_
            rotate_left
            · intro w'
              go_simp
              with_reducible rfl
            rotate_left
            · simp only [Act.put, sz_, s0_, s1_, i64_w, i32_w]
              rfl
            refine take_ (i := 1) (N := some 99) (v := ?_) (a' := ?_) (flg_ 21 203831) rfl rfl (take_ofW HT_.out HW_.out (by kernel_rfl)) (fun _ _ _ h => h) (Or.inl ⟨by rfl, ?_⟩) hHeld ?_ ?_
            rotate_left
            · rintro w' ⟨s0_, s1_, s2_, s3_⟩
              go_simp
              with_reducible rfl
            rotate_left
            · simp only [Act.put, sz_, s0_, s1_, i64_w, i32_w]
              rfl
            refine pure_ (i := 6) (N := some 104) (v := ?_) (a' := ?_) (flg_ 21 203895) rfl rfl (any_of HT_.out (by kernel_rfl)) (fun _ _ _ h => h) (Or.inl ⟨by rfl, ?_⟩) ?_ ?_
            rotate_left
            · intro w'
              go_simp
              with_reducible rfl
            rotate_left
            · simp only [Act.put, sz_, s0_, s1_, i64_w, i32_w]
              rfl
            refine take_ (i := 7) (N := some 105) (v := ?_) (a' := ?_) (flg_ 21 204023) rfl rfl (take_ofW HT_.out HW_.out (by kernel_rfl)) (fun _ _ _ h => h) (Or.inl ⟨by rfl, ?_⟩) hHeld ?_ ?_
            rotate_left
            · rintro w' ⟨s0_, s1_, s2_, s3_⟩
              go_simp
              with_reducible rfl
            rotate_left
            · simp only [Act.put, sz_, s0_, s1_, i64_w, i32_w]
              rfl
            refine pure_ (i := 13) (N := some 111) (v := ?_) (a' := ?_) (flg_ 21 212215) rfl rfl (any_of HT_.out (by kernel_rfl)) (fun _ _ _ h => h) (Or.inl ⟨by rfl, ?_⟩) ?_ ?_
            rotate_left
            · intro w'
              go_simp
              with_reducible rfl
            rotate_left
            · simp only [Act.put, sz_, s0_, s1_, i64_w, i32_w]
              rfl
            refine take_ (i := 14) (N := some 112) (v := ?_) (a' := ?_) (flg_ 21 228599) rfl rfl (take_ofW HT_.out HW_.out (by kernel_rfl)) (fun _ _ _ h => h) (Or.inl ⟨by rfl, ?_⟩) hHeld ?_ ?_
            rotate_left
            · rintro w' ⟨s0_, s1_, s2_, s3_⟩
              go_simp
              with_reducible rfl
            rotate_left
            · simp only [Act.put, sz_, s0_, s1_, i64_w, i32_w]
              rfl
            refine pure_ (i := 15) (N := some 113) (v := ?_) (a' := ?_) (flg_ 21 261367) rfl rfl (any_of HT_.out (by kernel_rfl)) (fun _ _ _ h => h) (Or.inl ⟨by rfl, ?_⟩) ?_ ?_
            rotate_left
            · intro w'
              go_simp
              with_reducible rfl
            rotate_left
            · simp only [Act.put, sz_, s0_, s1_, i64_w, i32_w]
              rfl
            refine two_ (i := 3) (j := 8) (Ni := some 101) (Nj := some 106) (flg_ 21 261375) (flg_ 21 261623) rfl rfl rfl rfl (two_of HT_.out (by kernel_rfl)) (by decide) (by decide) (fun K hK => ?_) (fun K hK => ?_)
            focus
              refine goes_ Try.func104 (by kernel_rfl) rfl #[.slice _ list.length c] (by rfl) rfl rfl (by (try simp only [List.map_toArray, List.map_cons, List.map_nil]); first | done | rfl) ?_
              refine (spec_l01Own.calls _ c list list _ (Kd.C_below (Kd.C_below (Kd.F_now HF.out) HBd.out) HBr.out) HLc.out HOwn.out).mono ?_
              rintro e wk_ ⟨v101, rfl, ho, hb⟩
              refine ⟨_, rfl, ?_⟩
              have HV := Aside0.mk (Kd.R_lower ho (below_size HBr.out))
              clear ho
              have nB_ := Aside0.mk (below_step HBr.out hb)
              clear hb HBr
              have HBr := nB_
              clear nB_
              refine hK.out _ _ ⟨(blk_cell (blk_below HXd.out HBr.out) 0).trans rfl, (blk_cell (blk_below HXd.out HBr.out) 1).trans rfl, (blk_cell (blk_below HXd.out HBr.out) 2).trans rfl, (HBr.out.cell (World.block_lt_of_cell? _ _ hjd)).trans hjd⟩ (fun hHeld => ?_)
              clear hK K
              refine norm_ (a' := ?_) ?_ ?_
              rotate_left
              · show Act.put _ (some 101) _ = _
                simp only [Act.put, sz_, s0_, s1_, i64_w, i32_w]
                rfl
              refine one_ (i := 8) (N := some 106) (flg_ 21 261631) rfl rfl (one_of HT_.out (by kernel_rfl)) (by decide) (fun K hK => ?_)
              refine Kd.R_lit_step (Kd.int .i64) _ 2 ?hg (N := 106) ?hd (xs := ([own] : List Int)) (inner := [.int .i64 own]) (ok := fun _ => True) (okp := fun _ => True) ?hr ?hp (fun _ hk => hk) trivial (Below.refl _ _) (Nat.le_refl _) (by simp) ?_; (case hd => rfl); (case hg => rfl); (case hr => first | (go_simp; done) | (go_simp; rfl)); (case hp => exact (Reps.one (show Kd.M (Kd.int .i64) _ _ _ own [.int .i64 own] from rfl) (Reps.none _ _)))
              intro v106 wl_ ho hb hg_ hnew_
              clear hg_ hnew_
              have HY := Aside0.mk (Kd.R_lower ho (below_size HBr.out))
              clear ho
              have nB_ := Aside0.mk (below_step HBr.out hb)
              have nHV_ := Aside0.mk (Kd.R_below HV.out hb)
              clear hb HBr HV
              have HBr := nB_
              have HV := nHV_
              clear nB_ nHV_
              refine hK.out _ _ ⟨(blk_cell (blk_below HXd.out HBr.out) 0).trans rfl, (blk_cell (blk_below HXd.out HBr.out) 1).trans rfl, (blk_cell (blk_below HXd.out HBr.out) 2).trans rfl, (HBr.out.cell (World.block_lt_of_cell? _ _ hjd)).trans hjd⟩ (fun hHeld => ?_)
              clear hK K
              refine norm_ (a' := ?_) ?_ ?_
              rotate_left
              · show Act.put _ (some 106) _ = _
                simp only [Act.put, sz_, s0_, s1_, i64_w, i32_w]
                rfl
            rotate_left
            focus
              refine Kd.R_lit_step (Kd.int .i64) _ 2 ?hg (N := 106) ?hd (xs := ([own] : List Int)) (inner := [.int .i64 own]) (ok := fun _ => True) (okp := fun _ => True) ?hr ?hp (fun _ hk => hk) trivial (Below.refl _ _) (Nat.le_refl _) (by simp) ?_; (case hd => rfl); (case hg => rfl); (case hr => first | (go_simp; done) | (go_simp; rfl)); (case hp => exact (Reps.one (show Kd.M (Kd.int .i64) _ _ _ own [.int .i64 own] from rfl) (Reps.none _ _)))
              intro v106 wl_ ho hb hg_ hnew_
              clear hg_ hnew_
              have HY := Aside0.mk (Kd.R_lower ho (below_size HBr.out))
              clear ho
              have nB_ := Aside0.mk (below_step HBr.out hb)
              clear hb HBr
              have HBr := nB_
              clear nB_
              refine hK.out _ _ ⟨(blk_cell (blk_below HXd.out HBr.out) 0).trans rfl, (blk_cell (blk_below HXd.out HBr.out) 1).trans rfl, (blk_cell (blk_below HXd.out HBr.out) 2).trans rfl, (HBr.out.cell (World.block_lt_of_cell? _ _ hjd)).trans hjd⟩ (fun hHeld => ?_)
              clear hK K
              refine norm_ (a' := ?_) ?_ ?_
              rotate_left
              · show Act.put _ (some 106) _ = _
                simp only [Act.put, sz_, s0_, s1_, i64_w, i32_w]
                rfl
              refine one_ (i := 3) (N := some 101) (flg_ 21 261631) rfl rfl (one_of HT_.out (by kernel_rfl)) (by decide) (fun K hK => ?_)
              refine goes_ Try.func104 (by kernel_rfl) rfl #[.slice _ list.length c] (by rfl) rfl rfl (by (try simp only [List.map_toArray, List.map_cons, List.map_nil]); first | done | rfl) ?_
              refine (spec_l01Own.calls _ c list list _ (Kd.C_below (Kd.C_below (Kd.F_now HF.out) HBd.out) HBr.out) HLc.out HOwn.out).mono ?_
              rintro e wk_ ⟨v101, rfl, ho, hb⟩
              refine ⟨_, rfl, ?_⟩
              have HV := Aside0.mk (Kd.R_lower ho (below_size HBr.out))
              clear ho
              have nB_ := Aside0.mk (below_step HBr.out hb)
              have nHY_ := Aside0.mk (Kd.R_below HY.out hb)
              clear hb HBr HY
              have HBr := nB_
              have HY := nHY_
              clear nB_ nHY_
              refine hK.out _ _ ⟨(blk_cell (blk_below HXd.out HBr.out) 0).trans rfl, (blk_cell (blk_below HXd.out HBr.out) 1).trans rfl, (blk_cell (blk_below HXd.out HBr.out) 2).trans rfl, (HBr.out.cell (World.block_lt_of_cell? _ _ hjd)).trans hjd⟩ (fun hHeld => ?_)
              clear hK K
              refine norm_ (a' := ?_) ?_ ?_
              rotate_left
              · show Act.put _ (some 101) _ = _
                simp only [Act.put, sz_, s0_, s1_, i64_w, i32_w]
                rfl
            all_goals
              obtain ⟨A106, c106, e106⟩ := Kd.R_slice HY.out
              subst e106
              refine one_ (i := 9) (N := some 107) (flg_ 21 262143) rfl rfl (one_of HT_.out (by kernel_rfl)) (by decide) (fun K hK => ?_)
              refine Kd.R_append_rows_step (Kd.int .i64) (w0 := wd_) wd_.heap.size (by rfl) (.tmp 101) (.tmp 106) 22 2 (.int .i64 0) 8 rfl Try.underlying22 info2 rfl (by decide) (by omega) v101 list [own] _ _ _ (fun _ => True) (fun _ => False) rfl rfl HV.out (Kd.R_reads' HY.out).2.2 (fun _ _ h => h) (fun _ h => h.elim) (fun _ _ => trivial) HBr.out (below_size HBr.out) HRoom.out ?_
              intro v107 wp_ ho hb hg hat
              have HA := Aside0.mk ho
              have nB_ := Aside0.mk hb
              clear ho hb hg hat HBr HV HY
              have HBr := nB_
              clear nB_
              obtain ⟨A107, c107, e107⟩ := Kd.R_slice HA.out
              subst e107
              refine hK.out _ _ ⟨(blk_cell (blk_below HXd.out HBr.out) 0).trans rfl, (blk_cell (blk_below HXd.out HBr.out) 1).trans rfl, (blk_cell (blk_below HXd.out HBr.out) 2).trans rfl, (HBr.out.cell (World.block_lt_of_cell? _ _ hjd)).trans hjd⟩ (fun hHeld => ?_)
              clear hK K
              refine norm_ (a' := ?_) ?_ ?_
              rotate_left
              · show Act.put _ (some 107) _ = _
                simp only [Act.put, sz_, s0_, s1_, i64_w, i32_w]
                rfl
              refine one_ (i := 18) (N := some 116) (flg_ 21 524287) rfl rfl (one_of HT_.out (by kernel_rfl)) (by decide) (fun K hK => ?_)
              refine goes_ Try.func64 (by kernel_rfl) rfl #[.agg #[.int .i64 (W0 : Int), .int .i64 (H0 : Int), .slice (some ad2) ships.length c2], .slice A107 (list ++ [own]).length c107, .int .i64 (Go.bits .or .i64 used own), .slice A3 T.length c3, .int .i64 rest] (by rfl) rfl rfl (by (try simp only [List.map_toArray, List.map_cons, List.map_nil]); first | done | rfl) ?_
              refine (HIH.out (list ++ [own]) (Go.bits .or .i64 used own) rest A107 c107 (fun k => wd_.heap.size ≤ k) wp_ HLen.out HIn.out HRest.out (Kd.F_mono (Kd.R_F (Kd.R_tight rfl HA.out)) (fun k hk => Kd.R_base HA.out k hk.symm)) (Kd.R_reads' HA.out).2.1 (Kd.C_below (Kd.C_below HT.out HBd.out) HBr.out) (Kd.C_below (Kd.C_below HSh.out HBd.out) HBr.out)).mono ?_
              rintro e wf_ ⟨v116, rfl, ho, hb⟩
              refine ⟨_, rfl, ?_⟩
              obtain ⟨A116, c116, e116⟩ := Kd.N_slice ho
              subst e116
              rw [HFv.out] at ho
              have HR := Aside0.mk (Kd.N_F (Kd.N_mono (ok' := fun k => wd_.heap.size ≤ k) ho (fun k hk => hk.elim id (fun h => Nat.le_trans (below_size HBr.out) h))))
              have nB_ := Aside0.mk (below_step HBr.out hb)
              clear ho hb HBr HA
              have HBr := nB_
              clear nB_
              refine hK.out _ _ ⟨(blk_cell (blk_below HXd.out HBr.out) 0).trans rfl, (blk_cell (blk_below HXd.out HBr.out) 1).trans rfl, (blk_cell (blk_below HXd.out HBr.out) 2).trans rfl, (HBr.out.cell (World.block_lt_of_cell? _ _ hjd)).trans hjd⟩ (fun hHeld => ?_)
              clear hK K
              refine norm_ (a' := ?_) ?_ ?_
              rotate_left
              · show Act.put _ (some 116) _ = _
                simp only [Act.put, sz_, s0_, s1_, i64_w, i32_w]
                rfl
              refine one_ (i := 19) (N := some 117) (flg_ 21 1048575) rfl rfl (one_of HT_.out (by kernel_rfl)) (by decide) (fun K hK => ?_)
              refine Kd.N_append_rows_step (Kd.slice 2 (Kd.int .i64)) (w0 := w) w.heap.size (by rfl) (.tmp 98) (.tmp 116) 42 22 (.slice none 0 0) 24 rfl Try.underlying42 info22 rfl (by decide) (by omega) (.slice A12 ol.length c12) ol fls A116 fls.length c116 (fun k => okL k ∨ w.heap.size ≤ k) (fun k => wd_.heap.size ≤ k) (by rfl) (by first | rfl | (rw [← HFv.out]; rfl)) (Kd.N_below HNd.out HBr.out) HR.out (fun k hk => ⟨.inr (Nat.le_trans (below_size HBd.out) hk), fun e_ => by have := Kd.N_lt HNd.out k e_.symm; omega⟩) (fun k hk => .inr (Nat.le_trans (Nat.le_trans (below_size HBd.out) (below_size HBr.out)) hk)) (below_step HBd.out HBr.out) (Nat.le_trans (below_size HBd.out) (below_size HBr.out)) HCap.out ?_
              intro v117 wg_ ho hb hg hat
              obtain ⟨A117, c117, e117⟩ := Kd.N_slice ho
              subst e117
              have HX := Aside0.mk ((hg.block _ (blk_lt (blk_below HXd.out HBr.out)) (Kd.N_ne (Kd.N_below HNd.out HBr.out) (blk_below HXd.out HBr.out) (by decide))).trans (blk_below HXd.out HBr.out))
              have HP := Aside0.mk (Kd.R_over' (e' := 22) (Kd.R_below HPd.out HBr.out) (Kd.N_typed (Kd.N_below HNd.out HBr.out)) (by decide) hg)
              have HN := Aside0.mk ho
              have HB := Aside0.mk hb
              clear ho hb hg hat HBr HR HXd HNd HBd HPd hjd
              obtain ⟨adk, ek, hxk⟩ := Kd.at_int (Kd.R_reads' HP.out).2.2 (j : Int) HJ0.out HJ1.out
              cases ek
              rw [Int.toNat_natCast, HRd.out] at hxk
              refine hK.out _ _ ⟨(blk_cell HX.out 0).trans rfl, (blk_cell HX.out 1).trans rfl, (blk_cell HX.out 2).trans rfl, hxk⟩ (fun hHeld => ?_)
              clear hK K hxk
              refine norm_ (a' := ?_) ?_ ?_
              rotate_left
              · show Act.put _ (some 117) _ = _
                simp only [Act.put, sz_, s0_, s1_, i64_w, i32_w]
                rfl
              refine pure_ (i := 20) (N := some 12) (v := ?_) (a' := ?_) (flg_ 21 2097151) rfl rfl (any_of HT_.out (by kernel_rfl)) (fun _ _ _ h => h) (Or.inl ⟨by rfl, ?_⟩) ?_ ?_
              rotate_left
              · intro w'
                go_simp
                with_reducible rfl
              rotate_left
              · simp only [Act.put, sz_, s0_, s1_, i64_w, i32_w]
                rfl
              refine done_ (done_of HT_.out (by kernel_rfl)) ?_
              go_wp2_with fail
              go_roundg (P.length - (j + 1))
              case measure => exact HJm.out
              case rel => exact ⟨j + 1, A117, c117, HJr.out, Nat.le_refl _, by rw [HOs.out, List.length_append], (by first | rfl | exact congrArg (Value.int .i64) HJs.out), ⟨by rw [HOs.out]; exact HN.out⟩, HP, HX, HB⟩
        · by_cases hml : (ol.length : Int) < most
          · 
            have HOs0 := HOS.out j hlt
            rw [hown, hol] at HOs0
            unfold goStep at HOs0
            rw [if_pos (.inr hml)] at HOs0
            rw [if_neg hneg] at HOs0
            obtain ⟨rest, hrest⟩ : ∃ rest, most - (ol.length : Int) = rest := ⟨_, rfl⟩
            rw [hrest] at HOs0
            have HRest := Aside0.mk (show rest < 9223372036854775808 by have := HMo.out; omega)
            obtain ⟨fls, hfls⟩ : ∃ fls, goV W0 H0 ships T d (list ++ [own]) (Go.bits .or .i64 used own) rest = fls := ⟨_, rfl⟩
            have HFlen := HFl.out own rest
            rw [hfls] at HFlen
            have HFv := Aside0.mk hfls
            simp only [hfls] at HOs0
            have HCap := Aside0.mk (show (ol.length + fls.length) * 24 ≤ 140737488355328 by have := HOlen.out; omega)
            have m1 := decide_eq_false hneg
            have m2 := eq_false hneg
            have m3 := decide_eq_true (show (0 : Int) ≤ most by omega)
            have m4 := decide_eq_true (show most ≥ (0 : Int) by omega)
            have m5 := decide_eq_true hml
            have m6 := eq_true hml
            have m7 : wrap64 (most - (ol.length : Int)) = rest := by rw [← hrest]; have := HMo.out; have := HOlen.out; unfold wrap64; omega
            clear hfls HFlen hown hlt hj hgj hml hrest hneg
            rcases goOk_cases ships list own used with ⟨hbz, hok⟩ | ⟨hbz, hl0, hok⟩ | ⟨m, hm, hbz, ⟨h1, hok⟩ | ⟨h1, h2, hok⟩ | ⟨h1, h2, hok⟩⟩
            case inl =>
              rw [if_neg (by rw [hok]; simp)] at HOs0
              have HOs := Aside0.mk HOs0
              clear HOs0 hok
              have b1 : (Go.bits .and .i64 own used != 0) = true := bne_iff_ne.mpr hbz
              have b2 : (Go.bits .and .i64 own used == 0) = false := beq_eq_false_iff_ne.mpr hbz
              go_wp2_with fail
              go_quiet (fail)
              go_wp2_with fail
              have hbq := pw_below_drewN (Below.refl wr.heap.size wr) nq
              go_roundg (P.length - (j + 1))
              case measure => exact HJm.out
              case rel => exact ⟨j + 1, A12, c12, HJr.out, Nat.le_refl _, by rw [HOs.out], (by first | rfl | exact congrArg (Value.int .i64) HJs.out), ⟨by rw [HOs.out]; exact Kd.N_below HN.out hbq⟩, ⟨Kd.R_below HP.out hbq⟩, ⟨blk_below HX.out hbq⟩, ⟨below_step HB.out hbq⟩⟩
            case inr.inr.inr.inl =>
              rw [if_neg (by rw [hok]; simp)] at HOs0
              have HOs := Aside0.mk HOs0
              clear HOs0 hok
              have b1 : (Go.bits .and .i64 own used != 0) = false := by rw [hbz]; rfl
              have b2 : (Go.bits .and .i64 own used == 0) = true := by rw [hbz]; rfl
              obtain ⟨adL, eL, k3⟩ := Kd.at_int (Kd.C_below (Kd.F_now HF.out) HB.out) (m : Int) (by omega) (by omega)
              subst eL
              obtain ⟨ad21, e21, k1⟩ := Kd.at_int (Kd.C_below HSh.out HB.out) (list.length : Int) (by omega) (by have := HD.out; omega)
              obtain ⟨ad22, e22, k2⟩ := Kd.at_int (Kd.C_below HSh.out HB.out) (m : Int) (by omega) (by have := HD.out; omega)
              injection e21 with e21
              injection e22 with e22
              subst e21 e22
              rw [Int.toNat_natCast] at k1 k2 k3
              rw [HSH.out] at k1 h1
              have h0 := decide_eq_true (show (0 : Int) < (list.length : Int) by omega)
              have h0n := decide_eq_true (show 0 < list.length by omega)
              have w1_ := eq_true (show (m : Int) < (ships.length : Int) by have := HD.out; omega)
              have w2_ := eq_true (show m < ships.length by have := HD.out; omega)
              have w3_ := eq_true (show (m : Int) < (list.length : Int) by omega)
              have w4_ := eq_true (show m < list.length by omega)
              have w5_ := eq_true (show (0 : Int) ≤ (m : Int) by omega)
              have hn1 : wrap64 ((list.length : Int) - 1) = (m : Int) := by have := HS3.out; have := HD.out; unfold wrap64; omega
              clear hm
              generalize rd ships (m : Int) = s2 at *
              generalize rd list (m : Int) = lx at *
              subst h1
              have h1b := beq_self_eq_true sh
              have h2b := decide_eq_true h2
              have h2c := eq_true h2
              go_wp2_with fail
              go_quiet (fail)
              go_wp2_with fail
              have hbq := pw_below_drewN (Below.refl wr.heap.size wr) nq
              go_roundg (P.length - (j + 1))
              case measure => exact HJm.out
              case rel => exact ⟨j + 1, A12, c12, HJr.out, Nat.le_refl _, by rw [HOs.out], (by first | rfl | exact congrArg (Value.int .i64) HJs.out), ⟨by rw [HOs.out]; exact Kd.N_below HN.out hbq⟩, ⟨Kd.R_below HP.out hbq⟩, ⟨blk_below HX.out hbq⟩, ⟨below_step HB.out hbq⟩⟩
            case' inr.inl =>
              rw [if_pos hok] at HOs0
              have HOs := Aside0.mk HOs0
              clear HOs0 hok
              have b1 : (Go.bits .and .i64 own used != 0) = false := by rw [hbz]; rfl
              have b2 : (Go.bits .and .i64 own used == 0) = true := by rw [hbz]; rfl
              have h0 := decide_eq_false (show ¬ (0 : Int) < (list.length : Int) by omega)
              have h0n := decide_eq_false (show ¬ 0 < list.length by omega)
              clear hl0
              go_wp2_with fail
              go_quiet (fail)
              go_wp2_with fail
            case' inr.inr.inl =>
              rw [if_pos hok] at HOs0
              have HOs := Aside0.mk HOs0
              clear HOs0 hok
              have b1 : (Go.bits .and .i64 own used != 0) = false := by rw [hbz]; rfl
              have b2 : (Go.bits .and .i64 own used == 0) = true := by rw [hbz]; rfl
              obtain ⟨adL, eL, k3⟩ := Kd.at_int (Kd.C_below (Kd.F_now HF.out) HB.out) (m : Int) (by omega) (by omega)
              subst eL
              obtain ⟨ad21, e21, k1⟩ := Kd.at_int (Kd.C_below HSh.out HB.out) (list.length : Int) (by omega) (by have := HD.out; omega)
              obtain ⟨ad22, e22, k2⟩ := Kd.at_int (Kd.C_below HSh.out HB.out) (m : Int) (by omega) (by have := HD.out; omega)
              injection e21 with e21
              injection e22 with e22
              subst e21 e22
              rw [Int.toNat_natCast] at k1 k2 k3
              rw [HSH.out] at k1 h1
              have h0 := decide_eq_true (show (0 : Int) < (list.length : Int) by omega)
              have h0n := decide_eq_true (show 0 < list.length by omega)
              have w1_ := eq_true (show (m : Int) < (ships.length : Int) by have := HD.out; omega)
              have w2_ := eq_true (show m < ships.length by have := HD.out; omega)
              have w3_ := eq_true (show (m : Int) < (list.length : Int) by omega)
              have w4_ := eq_true (show m < list.length by omega)
              have w5_ := eq_true (show (0 : Int) ≤ (m : Int) by omega)
              have hn1 : wrap64 ((list.length : Int) - 1) = (m : Int) := by have := HS3.out; have := HD.out; unfold wrap64; omega
              clear hm
              generalize rd ships (m : Int) = s2 at *
              generalize rd list (m : Int) = lx at *
              have h1b : (sh == s2) = false := beq_eq_false_iff_ne.mpr h1
              go_wp2_with fail
              go_quiet (fail)
              go_wp2_with fail
              clear h1 h1b
            case' inr.inr.inr.inr =>
              rw [if_pos hok] at HOs0
              have HOs := Aside0.mk HOs0
              clear HOs0 hok
              have b1 : (Go.bits .and .i64 own used != 0) = false := by rw [hbz]; rfl
              have b2 : (Go.bits .and .i64 own used == 0) = true := by rw [hbz]; rfl
              obtain ⟨adL, eL, k3⟩ := Kd.at_int (Kd.C_below (Kd.F_now HF.out) HB.out) (m : Int) (by omega) (by omega)
              subst eL
              obtain ⟨ad21, e21, k1⟩ := Kd.at_int (Kd.C_below HSh.out HB.out) (list.length : Int) (by omega) (by have := HD.out; omega)
              obtain ⟨ad22, e22, k2⟩ := Kd.at_int (Kd.C_below HSh.out HB.out) (m : Int) (by omega) (by have := HD.out; omega)
              injection e21 with e21
              injection e22 with e22
              subst e21 e22
              rw [Int.toNat_natCast] at k1 k2 k3
              rw [HSH.out] at k1 h1
              have h0 := decide_eq_true (show (0 : Int) < (list.length : Int) by omega)
              have h0n := decide_eq_true (show 0 < list.length by omega)
              have w1_ := eq_true (show (m : Int) < (ships.length : Int) by have := HD.out; omega)
              have w2_ := eq_true (show m < ships.length by have := HD.out; omega)
              have w3_ := eq_true (show (m : Int) < (list.length : Int) by omega)
              have w4_ := eq_true (show m < list.length by omega)
              have w5_ := eq_true (show (0 : Int) ≤ (m : Int) by omega)
              have hn1 : wrap64 ((list.length : Int) - 1) = (m : Int) := by have := HS3.out; have := HD.out; unfold wrap64; omega
              clear hm
              generalize rd ships (m : Int) = s2 at *
              generalize rd list (m : Int) = lx at *
              subst h1
              have h1b := beq_self_eq_true sh
              have h2b := decide_eq_false h2
              have h2c := eq_false h2
              go_wp2_with fail
              go_quiet (fail)
              go_wp2_with fail
              clear h1b h2 h2b h2c
            all_goals
              (try clear b1 b2)
              (try clear h0 h0n)
              (try clear hn1)
              have hbq := below_drew1 (pw_below_drewN (Below.refl wr.heap.size wr) nq)
              have HXd := Aside0.mk (blk_below HX.out hbq)
              have HNd := Aside0.mk (Kd.N_below HN.out hbq)
              have HBd := Aside0.mk (below_step HB.out hbq)
              have HPd := Aside0.mk (Kd.R_below HP.out hbq)
              have hjd := (hbq.cell (World.block_lt_of_cell? _ _ hxj)).trans hxj
              clear hbq hxj
              (try clear k1)
              (try clear k2)
              (try clear k3)
              clear HX HN HB HP hs0 hs1 hs2
              refine start_ (n := 21) (S := fun w' => w'.cell? ⟨g5, 0, none⟩ = some (.int .i64 (W0 : Int)) ∧ w'.cell? ⟨g5, 1, none⟩ = some (.int .i64 (H0 : Int)) ∧ w'.cell? ⟨g5, 2, none⟩ = some (.slice (some ad2) ships.length c2) ∧ w'.cell? (adj.add j) = some (.int .i64 own)) (ds := []) #[false, false, false, false, false, false, false, false, false, false, false, false, false, false, false, false, false, false, false, false, false] (by kernel_rfl) rfl rfl ⟨(blk_cell HXd.out 0).trans rfl, (blk_cell HXd.out 1).trans rfl, (blk_cell HXd.out 2).trans rfl, hjd⟩ (fun hHeld => ?_)
              refine with_tabW spec_l09Go.tab14 spec_l09Go.bits14 (fun HT_ HW_ => ?_)
              generalize hq_ : (wr.drewN nq).drew = wd_ at HXd HNd HBd HPd hjd hHeld ⊢
              clear hq_
              have HBr := Aside0.mk (Below.refl wd_.heap.size wd_)
              refine pure_ (i := 0) (N := some 98) (v := ?_) (a' := ?_) (flg_ 21 1) rfl rfl (any_of HT_.out (by kernel_rfl)) (fun _ _ _ h => h) (Or.inl ⟨by rfl, ?_⟩) ?_ ?_
              rotate_left
              · intro w'
                go_simp
                with_reducible rfl
              rotate_left
              · simp only [Act.put, sz_, s0_, s1_, i64_w, i32_w]
                rfl
              refine pure_ (i := 2) (N := some 100) (v := ?_) (a' := ?_) (flg_ 21 5) rfl rfl (any_of HT_.out (by kernel_rfl)) (fun _ _ _ h => h) (Or.inl ⟨by rfl, ?_⟩) ?_ ?_
              rotate_left
              · intro w'
                go_simp
                with_reducible rfl
              rotate_left
              · simp only [Act.put, sz_, s0_, s1_, i64_w, i32_w]
                rfl
              refine pure_ (i := 4) (N := some 102) (v := ?_) (a' := ?_) (flg_ 21 21) rfl rfl (any_of HT_.out (by kernel_rfl)) (fun _ _ _ h => h) (Or.inl ⟨by rfl, ?_⟩) ?_ ?_
              rotate_left
              · intro w'
                go_simp
                with_reducible rfl
              rotate_left
              · simp only [Act.put, sz_, s0_, s1_, i64_w, i32_w]
                rfl
              refine pure_ (i := 5) (N := some 103) (v := ?_) (a' := ?_) (flg_ 21 53) rfl rfl (any_of HT_.out (by kernel_rfl)) (fun _ _ _ h => h) (Or.inl ⟨by rfl, ?_⟩) ?_ ?_
              rotate_left
              · intro w'
                go_simp
                with_reducible rfl
              rotate_left
              · simp only [Act.put, sz_, s0_, s1_, i64_w, i32_w]
                rfl
              refine pure_ (i := 10) (N := some 108) (v := ?_) (a' := ?_) (flg_ 21 1077) rfl rfl (any_of HT_.out (by kernel_rfl)) (fun _ _ _ h => h) (Or.inl ⟨by rfl, ?_⟩) ?_ ?_
              rotate_left
              · intro w'
                go_simp
                with_reducible rfl
              rotate_left
              · simp only [Act.put, sz_, s0_, s1_, i64_w, i32_w]
                rfl
              refine pure_ (i := 11) (N := some 109) (v := ?_) (a' := ?_) (flg_ 21 3125) rfl rfl (any_of HT_.out (by kernel_rfl)) (fun _ _ _ h => h) (Or.inl ⟨by rfl, ?_⟩) ?_ ?_
              rotate_left
              · intro w'
                go_simp
                with_reducible rfl
              rotate_left
              · simp only [Act.put, sz_, s0_, s1_, i64_w, i32_w]
                rfl
              refine pure_ (i := 12) (N := some 110) (v := ?_) (a' := ?_) (flg_ 21 7221) rfl rfl (any_of HT_.out (by kernel_rfl)) (fun _ _ _ h => h) (Or.inl ⟨by rfl, ?_⟩) ?_ ?_
              rotate_left
              · intro w'
                go_simp
                with_reducible rfl
              rotate_left
              · simp only [Act.put, sz_, s0_, s1_, i64_w, i32_w]
                rfl
              refine pure_ (i := 16) (N := some 114) (v := ?_) (a' := ?_) (flg_ 21 72757) rfl rfl (any_of HT_.out (by kernel_rfl)) (fun _ _ _ h => h) (Or.inl ⟨by rfl, ?_⟩) ?_ ?_
              rotate_left
              · intro w'
                go_simp
                with_reducible rfl
              rotate_left
              · simp only [Act.put, sz_, s0_, s1_, i64_w, i32_w]
                rfl
              refine pure_ (i := 17) (N := some 115) (v := ?_) (a' := ?_) (flg_ 21 203829) rfl rfl (any_of HT_.out (by kernel_rfl)) (fun _ _ _ h => h) (Or.inl ⟨by rfl, ?_⟩) ?_ ?_
              rotate_left
              · intro w'
                go_simp
                with_reducible rfl
              rotate_left
              · simp only [Act.put, sz_, s0_, s1_, i64_w, i32_w]
                rfl
              refine take_ (i := 1) (N := some 99) (v := ?_) (a' := ?_) (flg_ 21 203831) rfl rfl (take_ofW HT_.out HW_.out (by kernel_rfl)) (fun _ _ _ h => h) (Or.inl ⟨by rfl, ?_⟩) hHeld ?_ ?_
              rotate_left
              · rintro w' ⟨s0_, s1_, s2_, s3_⟩
                go_simp
                with_reducible rfl
              rotate_left
              · simp only [Act.put, sz_, s0_, s1_, i64_w, i32_w]
                rfl
              refine pure_ (i := 6) (N := some 104) (v := ?_) (a' := ?_) (flg_ 21 203895) rfl rfl (any_of HT_.out (by kernel_rfl)) (fun _ _ _ h => h) (Or.inl ⟨by rfl, ?_⟩) ?_ ?_
              rotate_left
              · intro w'
                go_simp
                with_reducible rfl
              rotate_left
              · simp only [Act.put, sz_, s0_, s1_, i64_w, i32_w]
                rfl
              refine take_ (i := 7) (N := some 105) (v := ?_) (a' := ?_) (flg_ 21 204023) rfl rfl (take_ofW HT_.out HW_.out (by kernel_rfl)) (fun _ _ _ h => h) (Or.inl ⟨by rfl, ?_⟩) hHeld ?_ ?_
              rotate_left
              · rintro w' ⟨s0_, s1_, s2_, s3_⟩
                go_simp
                with_reducible rfl
              rotate_left
              · simp only [Act.put, sz_, s0_, s1_, i64_w, i32_w]
                rfl
              refine pure_ (i := 13) (N := some 111) (v := ?_) (a' := ?_) (flg_ 21 212215) rfl rfl (any_of HT_.out (by kernel_rfl)) (fun _ _ _ h => h) (Or.inl ⟨by rfl, ?_⟩) ?_ ?_
              rotate_left
              · intro w'
                go_simp
                with_reducible rfl
              rotate_left
              · simp only [Act.put, sz_, s0_, s1_, i64_w, i32_w]
                rfl
              refine take_ (i := 14) (N := some 112) (v := ?_) (a' := ?_) (flg_ 21 228599) rfl rfl (take_ofW HT_.out HW_.out (by kernel_rfl)) (fun _ _ _ h => h) (Or.inl ⟨by rfl, ?_⟩) hHeld ?_ ?_
              rotate_left
              · rintro w' ⟨s0_, s1_, s2_, s3_⟩
                go_simp
                with_reducible rfl
              rotate_left
              · simp only [Act.put, sz_, s0_, s1_, i64_w, i32_w]
                rfl
              refine pure_ (i := 15) (N := some 113) (v := ?_) (a' := ?_) (flg_ 21 261367) rfl rfl (any_of HT_.out (by kernel_rfl)) (fun _ _ _ h => h) (Or.inl ⟨by rfl, ?_⟩) ?_ ?_
              rotate_left
              · intro w'
                go_simp
                with_reducible rfl
              rotate_left
              · simp only [Act.put, sz_, s0_, s1_, i64_w, i32_w]
                rfl
              refine two_ (i := 3) (j := 8) (Ni := some 101) (Nj := some 106) (flg_ 21 261375) (flg_ 21 261623) rfl rfl rfl rfl (two_of HT_.out (by kernel_rfl)) (by decide) (by decide) (fun K hK => ?_) (fun K hK => ?_)
              focus
                refine goes_ Try.func104 (by kernel_rfl) rfl #[.slice _ list.length c] (by rfl) rfl rfl (by (try simp only [List.map_toArray, List.map_cons, List.map_nil]); first | done | rfl) ?_
                refine (spec_l01Own.calls _ c list list _ (Kd.C_below (Kd.C_below (Kd.F_now HF.out) HBd.out) HBr.out) HLc.out HOwn.out).mono ?_
                rintro e wk_ ⟨v101, rfl, ho, hb⟩
                refine ⟨_, rfl, ?_⟩
                have HV := Aside0.mk (Kd.R_lower ho (below_size HBr.out))
                clear ho
                have nB_ := Aside0.mk (below_step HBr.out hb)
                clear hb HBr
                have HBr := nB_
                clear nB_
                refine hK.out _ _ ⟨(blk_cell (blk_below HXd.out HBr.out) 0).trans rfl, (blk_cell (blk_below HXd.out HBr.out) 1).trans rfl, (blk_cell (blk_below HXd.out HBr.out) 2).trans rfl, (HBr.out.cell (World.block_lt_of_cell? _ _ hjd)).trans hjd⟩ (fun hHeld => ?_)
                clear hK K
                refine norm_ (a' := ?_) ?_ ?_
                rotate_left
                · show Act.put _ (some 101) _ = _
                  simp only [Act.put, sz_, s0_, s1_, i64_w, i32_w]
                  rfl
                refine one_ (i := 8) (N := some 106) (flg_ 21 261631) rfl rfl (one_of HT_.out (by kernel_rfl)) (by decide) (fun K hK => ?_)
                refine Kd.R_lit_step (Kd.int .i64) _ 2 ?hg (N := 106) ?hd (xs := ([own] : List Int)) (inner := [.int .i64 own]) (ok := fun _ => True) (okp := fun _ => True) ?hr ?hp (fun _ hk => hk) trivial (Below.refl _ _) (Nat.le_refl _) (by simp) ?_; (case hd => rfl); (case hg => rfl); (case hr => first | (go_simp; done) | (go_simp; rfl)); (case hp => exact (Reps.one (show Kd.M (Kd.int .i64) _ _ _ own [.int .i64 own] from rfl) (Reps.none _ _)))
                intro v106 wl_ ho hb hg_ hnew_
                clear hg_ hnew_
                have HY := Aside0.mk (Kd.R_lower ho (below_size HBr.out))
                clear ho
                have nB_ := Aside0.mk (below_step HBr.out hb)
                have nHV_ := Aside0.mk (Kd.R_below HV.out hb)
                clear hb HBr HV
                have HBr := nB_
                have HV := nHV_
                clear nB_ nHV_
                refine hK.out _ _ ⟨(blk_cell (blk_below HXd.out HBr.out) 0).trans rfl, (blk_cell (blk_below HXd.out HBr.out) 1).trans rfl, (blk_cell (blk_below HXd.out HBr.out) 2).trans rfl, (HBr.out.cell (World.block_lt_of_cell? _ _ hjd)).trans hjd⟩ (fun hHeld => ?_)
                clear hK K
                refine norm_ (a' := ?_) ?_ ?_
                rotate_left
                · show Act.put _ (some 106) _ = _
                  simp only [Act.put, sz_, s0_, s1_, i64_w, i32_w]
                  rfl
              rotate_left
              focus
                refine Kd.R_lit_step (Kd.int .i64) _ 2 ?hg (N := 106) ?hd (xs := ([own] : List Int)) (inner := [.int .i64 own]) (ok := fun _ => True) (okp := fun _ => True) ?hr ?hp (fun _ hk => hk) trivial (Below.refl _ _) (Nat.le_refl _) (by simp) ?_; (case hd => rfl); (case hg => rfl); (case hr => first | (go_simp; done) | (go_simp; rfl)); (case hp => exact (Reps.one (show Kd.M (Kd.int .i64) _ _ _ own [.int .i64 own] from rfl) (Reps.none _ _)))
                intro v106 wl_ ho hb hg_ hnew_
                clear hg_ hnew_
                have HY := Aside0.mk (Kd.R_lower ho (below_size HBr.out))
                clear ho
                have nB_ := Aside0.mk (below_step HBr.out hb)
                clear hb HBr
                have HBr := nB_
                clear nB_
                refine hK.out _ _ ⟨(blk_cell (blk_below HXd.out HBr.out) 0).trans rfl, (blk_cell (blk_below HXd.out HBr.out) 1).trans rfl, (blk_cell (blk_below HXd.out HBr.out) 2).trans rfl, (HBr.out.cell (World.block_lt_of_cell? _ _ hjd)).trans hjd⟩ (fun hHeld => ?_)
                clear hK K
                refine norm_ (a' := ?_) ?_ ?_
                rotate_left
                · show Act.put _ (some 106) _ = _
                  simp only [Act.put, sz_, s0_, s1_, i64_w, i32_w]
                  rfl
                refine one_ (i := 3) (N := some 101) (flg_ 21 261631) rfl rfl (one_of HT_.out (by kernel_rfl)) (by decide) (fun K hK => ?_)
                refine goes_ Try.func104 (by kernel_rfl) rfl #[.slice _ list.length c] (by rfl) rfl rfl (by (try simp only [List.map_toArray, List.map_cons, List.map_nil]); first | done | rfl) ?_
                refine (spec_l01Own.calls _ c list list _ (Kd.C_below (Kd.C_below (Kd.F_now HF.out) HBd.out) HBr.out) HLc.out HOwn.out).mono ?_
                rintro e wk_ ⟨v101, rfl, ho, hb⟩
                refine ⟨_, rfl, ?_⟩
                have HV := Aside0.mk (Kd.R_lower ho (below_size HBr.out))
                clear ho
                have nB_ := Aside0.mk (below_step HBr.out hb)
                have nHY_ := Aside0.mk (Kd.R_below HY.out hb)
                clear hb HBr HY
                have HBr := nB_
                have HY := nHY_
                clear nB_ nHY_
                refine hK.out _ _ ⟨(blk_cell (blk_below HXd.out HBr.out) 0).trans rfl, (blk_cell (blk_below HXd.out HBr.out) 1).trans rfl, (blk_cell (blk_below HXd.out HBr.out) 2).trans rfl, (HBr.out.cell (World.block_lt_of_cell? _ _ hjd)).trans hjd⟩ (fun hHeld => ?_)
                clear hK K
                refine norm_ (a' := ?_) ?_ ?_
                rotate_left
                · show Act.put _ (some 101) _ = _
                  simp only [Act.put, sz_, s0_, s1_, i64_w, i32_w]
                  rfl
              all_goals
                obtain ⟨A106, c106, e106⟩ := Kd.R_slice HY.out
                subst e106
                refine one_ (i := 9) (N := some 107) (flg_ 21 262143) rfl rfl (one_of HT_.out (by kernel_rfl)) (by decide) (fun K hK => ?_)
                refine Kd.R_append_rows_step (Kd.int .i64) (w0 := wd_) wd_.heap.size (by rfl) (.tmp 101) (.tmp 106) 22 2 (.int .i64 0) 8 rfl Try.underlying22 info2 rfl (by decide) (by omega) v101 list [own] _ _ _ (fun _ => True) (fun _ => False) rfl rfl HV.out (Kd.R_reads' HY.out).2.2 (fun _ _ h => h) (fun _ h => h.elim) (fun _ _ => trivial) HBr.out (below_size HBr.out) HRoom.out ?_
                intro v107 wp_ ho hb hg hat
                have HA := Aside0.mk ho
                have nB_ := Aside0.mk hb
                clear ho hb hg hat HBr HV HY
                have HBr := nB_
                clear nB_
                obtain ⟨A107, c107, e107⟩ := Kd.R_slice HA.out
                subst e107
                refine hK.out _ _ ⟨(blk_cell (blk_below HXd.out HBr.out) 0).trans rfl, (blk_cell (blk_below HXd.out HBr.out) 1).trans rfl, (blk_cell (blk_below HXd.out HBr.out) 2).trans rfl, (HBr.out.cell (World.block_lt_of_cell? _ _ hjd)).trans hjd⟩ (fun hHeld => ?_)
                clear hK K
                refine norm_ (a' := ?_) ?_ ?_
                rotate_left
                · show Act.put _ (some 107) _ = _
                  simp only [Act.put, sz_, s0_, s1_, i64_w, i32_w]
                  rfl
                refine one_ (i := 18) (N := some 116) (flg_ 21 524287) rfl rfl (one_of HT_.out (by kernel_rfl)) (by decide) (fun K hK => ?_)
                refine goes_ Try.func64 (by kernel_rfl) rfl #[.agg #[.int .i64 (W0 : Int), .int .i64 (H0 : Int), .slice (some ad2) ships.length c2], .slice A107 (list ++ [own]).length c107, .int .i64 (Go.bits .or .i64 used own), .slice A3 T.length c3, .int .i64 rest] (by rfl) rfl rfl (by (try simp only [List.map_toArray, List.map_cons, List.map_nil]); first | done | rfl) ?_
                refine (HIH.out (list ++ [own]) (Go.bits .or .i64 used own) rest A107 c107 (fun k => wd_.heap.size ≤ k) wp_ HLen.out HIn.out HRest.out (Kd.F_mono (Kd.R_F (Kd.R_tight rfl HA.out)) (fun k hk => Kd.R_base HA.out k hk.symm)) (Kd.R_reads' HA.out).2.1 (Kd.C_below (Kd.C_below HT.out HBd.out) HBr.out) (Kd.C_below (Kd.C_below HSh.out HBd.out) HBr.out)).mono ?_
                rintro e wf_ ⟨v116, rfl, ho, hb⟩
                refine ⟨_, rfl, ?_⟩
                obtain ⟨A116, c116, e116⟩ := Kd.N_slice ho
                subst e116
                rw [HFv.out] at ho
                have HR := Aside0.mk (Kd.N_F (Kd.N_mono (ok' := fun k => wd_.heap.size ≤ k) ho (fun k hk => hk.elim id (fun h => Nat.le_trans (below_size HBr.out) h))))
                have nB_ := Aside0.mk (below_step HBr.out hb)
                clear ho hb HBr HA
                have HBr := nB_
                clear nB_
                refine hK.out _ _ ⟨(blk_cell (blk_below HXd.out HBr.out) 0).trans rfl, (blk_cell (blk_below HXd.out HBr.out) 1).trans rfl, (blk_cell (blk_below HXd.out HBr.out) 2).trans rfl, (HBr.out.cell (World.block_lt_of_cell? _ _ hjd)).trans hjd⟩ (fun hHeld => ?_)
                clear hK K
                refine norm_ (a' := ?_) ?_ ?_
                rotate_left
                · show Act.put _ (some 116) _ = _
                  simp only [Act.put, sz_, s0_, s1_, i64_w, i32_w]
                  rfl
                refine one_ (i := 19) (N := some 117) (flg_ 21 1048575) rfl rfl (one_of HT_.out (by kernel_rfl)) (by decide) (fun K hK => ?_)
                refine Kd.N_append_rows_step (Kd.slice 2 (Kd.int .i64)) (w0 := w) w.heap.size (by rfl) (.tmp 98) (.tmp 116) 42 22 (.slice none 0 0) 24 rfl Try.underlying42 info22 rfl (by decide) (by omega) (.slice A12 ol.length c12) ol fls A116 fls.length c116 (fun k => okL k ∨ w.heap.size ≤ k) (fun k => wd_.heap.size ≤ k) (by rfl) (by first | rfl | (rw [← HFv.out]; rfl)) (Kd.N_below HNd.out HBr.out) HR.out (fun k hk => ⟨.inr (Nat.le_trans (below_size HBd.out) hk), fun e_ => by have := Kd.N_lt HNd.out k e_.symm; omega⟩) (fun k hk => .inr (Nat.le_trans (Nat.le_trans (below_size HBd.out) (below_size HBr.out)) hk)) (below_step HBd.out HBr.out) (Nat.le_trans (below_size HBd.out) (below_size HBr.out)) HCap.out ?_
                intro v117 wg_ ho hb hg hat
                obtain ⟨A117, c117, e117⟩ := Kd.N_slice ho
                subst e117
                have HX := Aside0.mk ((hg.block _ (blk_lt (blk_below HXd.out HBr.out)) (Kd.N_ne (Kd.N_below HNd.out HBr.out) (blk_below HXd.out HBr.out) (by decide))).trans (blk_below HXd.out HBr.out))
                have HP := Aside0.mk (Kd.R_over' (e' := 22) (Kd.R_below HPd.out HBr.out) (Kd.N_typed (Kd.N_below HNd.out HBr.out)) (by decide) hg)
                have HN := Aside0.mk ho
                have HB := Aside0.mk hb
                clear ho hb hg hat HBr HR HXd HNd HBd HPd hjd
                obtain ⟨adk, ek, hxk⟩ := Kd.at_int (Kd.R_reads' HP.out).2.2 (j : Int) HJ0.out HJ1.out
                cases ek
                rw [Int.toNat_natCast, HRd.out] at hxk
                refine hK.out _ _ ⟨(blk_cell HX.out 0).trans rfl, (blk_cell HX.out 1).trans rfl, (blk_cell HX.out 2).trans rfl, hxk⟩ (fun hHeld => ?_)
                clear hK K hxk
                refine norm_ (a' := ?_) ?_ ?_
                rotate_left
                · show Act.put _ (some 117) _ = _
                  simp only [Act.put, sz_, s0_, s1_, i64_w, i32_w]
                  rfl
                refine pure_ (i := 20) (N := some 12) (v := ?_) (a' := ?_) (flg_ 21 2097151) rfl rfl (any_of HT_.out (by kernel_rfl)) (fun _ _ _ h => h) (Or.inl ⟨by rfl, ?_⟩) ?_ ?_
                rotate_left
                · intro w'
                  go_simp
                  with_reducible rfl
                rotate_left
                · simp only [Act.put, sz_, s0_, s1_, i64_w, i32_w]
                  rfl
                refine done_ (done_of HT_.out (by kernel_rfl)) ?_
                go_wp2_with fail
                go_roundg (P.length - (j + 1))
                case measure => exact HJm.out
                case rel => exact ⟨j + 1, A117, c117, HJr.out, Nat.le_refl _, by rw [HOs.out, List.length_append], (by first | rfl | exact congrArg (Value.int .i64) HJs.out), ⟨by rw [HOs.out]; exact HN.out⟩, HP, HX, HB⟩
          · have HE := Aside0.mk (show O P.length = ol by rw [← hol]; exact HOK.out j hj (by omega) (by rw [hol]; omega))
            have m1 := decide_eq_false hneg
            have m2 := eq_false hneg
            have m5 := decide_eq_false hml
            have m6 := eq_false hml
            go_wp2_with fail
            go_ret
            exact ⟨_, rfl, by rw [HE.out]; exact HN.out, HB.out⟩
      · have hje : j = P.length := by omega
        subst hje
        have q1 := decide_eq_false (show ¬ (P.length : Int) < (P.length : Int) by omega)
        go_wp2_with fail
        go_ret
        exact ⟨_, rfl, HN.out, HB.out⟩
/-! ### slices_Clone_int64_int64: function 106 -/
-- EXTERNAL: by hand
def slices_Clone_int64_int64.f (l0 : List Int) : Option (List Int) := if l0.length ≤ 17592186044416 then some l0 else none
set_option maxHeartbeats 2000000 in
set_option maxRecDepth 100000 in
theorem slices_Clone_int64_int64.calls (A0 : Option Addr) (c0 : Nat) (l0 : List Int) (r : List Int) (w : World) (hr0 : Kd.C (Kd.int .i64) w A0 l0.length l0) (hc0 : l0.length ≤ c0) (h : slices_Clone_int64_int64.f l0 = some r) :
    Calls Try.prog 106 #[.slice A0 l0.length c0] w fun e w' => ∃ v0_ : Value, e = .returned v0_ ∧ Kd.R (Kd.int .i64) 2 w' w.heap.size (fun _ => True) v0_ r ∧ Below w.heap.size w w' := by
  unfold slices_Clone_int64_int64.f at h
  by_cases hl : l0.length ≤ 17592186044416
  · rw [if_pos hl] at h
    obtain rfl := Option.some.inj h
    clear h
    have HB := Aside0.mk (Below.refl w.heap.size w)
    have HR := Aside0.mk hr0
    clear hr0
    cases A0 with
    | none =>
      have h0 : l0.length = 0 := by
        rcases Nat.eq_zero_or_pos l0.length with h | h
        · exact h
        · obtain ⟨ad, _, e, _⟩ := Kd.C_get HR.out 0 0 (by omega) (by omega)
          cases e
      have hl0 : l0 = [] := List.eq_nil_of_length_eq_zero h0
      subst hl0
      have hE := fun W => Lib.run_eql_slice_nil (P := Try.prog) W 22 2 none 0 c0 0 0 Try.underlying22
      go_enter Try.func106, Try.ntmps106
      go_wp2_with fail
      go_ret
      exact ⟨_, rfl, Kd.R_nil _ _ _ _ _, HB.out⟩
    | some ad =>
      obtain ⟨n, hn⟩ : ∃ n, n = l0.length := ⟨_, rfl⟩
      rw [← hn] at HR hc0 hl ⊢
      have HN := Aside0.mk hn
      have HL := Aside0.mk hl
      clear hn hl
      go_enter Try.func106, Try.ntmps106
      have hE := fun W => Lib.run_eql_slice_nil (P := Try.prog) W 22 2 (some ad) n c0 0 0 Try.underlying22
      go_wp2_with (first | ((with_reducible refine gate_dst (N := 5) rfl ?_); refine Kd.R_lit (Kd.int .i64) _ 2 ?hg (N := 5) ?hd (xs := ([] : List Int)) (inner := []) (ok := fun _ => True) (okp := fun _ => True) ?hr ?hp (fun _ hk => hk) trivial (Below.refl _ _) (Nat.le_refl _) (by simp) ?_; (case hd => rfl); (case hg => rfl); (case hr => first | (go_simp; done) | (go_simp; rfl)); (case hp => exact Reps.none _ _); intro v1 w1 ho hb hg_ hnew_; clear hg_ hnew_; obtain ⟨A5, c5, e5⟩ := Kd.R_slice ho; subst e5; have n1_ := Aside0.mk ho; have n2_ := Aside0.mk hb; clear ho hb) | ((with_reducible refine gate_builtin (b := .append) (xs := #[.tmp 5, .tmp 6]) rfl ?_); at_builtin; refine Kd.R_append_row (Value.int .i64) (0 : Int) (w0 := w) w.heap.size rfl (.tmp 5) (.tmp 6) 22 2 (.int .i64 0) 8 rfl Try.underlying22 info2 rfl (by omega) _ [] l0 (some ad) n c0 (fun _ => True) rfl rfl (fun _ _ => trivial) n1_.out (Kd.C_below HR.out n2_.out) n2_.out (below_size n2_.out) ?hl ?_; (case hl => have := HL.out; rw [List.length_nil]; omega); intro v3 w3 ho hb hg hat; rw [List.nil_append] at ho; have n3_ := Aside0.mk ho; have n4_ := Aside0.mk hb; clear ho hb hg hat))
      go_ret
      exact ⟨_, rfl, n3_.out, n4_.out⟩
  · rw [if_neg hl] at h
    cases h
-- needs: maps that keep what is known (memo)
/-- What a map keeps is so. -/
def Memo (P : Program) (k : TypeId) (F : Value → Int → Prop) (D : DataW Unit) : Prop :=
  ∀ key kl c, keyOf P k key = some kl → Go.Maps.has D kl = true → D.atKey kl (.lit (.int .i64 0)) = .lit (.int .i64 c) → F key c
theorem Memo.put {P : Program} {k : TypeId} {F : Value → Int → Prop} {D : DataW Unit} (K : Go.Maps.Keyed P k) (hm : Go.Maps.IsMap D) (h : Memo P k F D) {key : Value} {kl : Lit} {c : Int} (hk : keyOf P k key = some kl) (hF : F key c) :
    Memo P k F (D.put kl (.lit (.int .i64 c))) := by
  intro key' kl' c' hk' hh ha
  by_cases e : kl' = kl
  · subst e
    have : key' = key := K.inj hk' hk
    subst this
    rw [Go.Maps.atKey_put_same hm (K.key hk)] at ha
    injection ha with ha
    injection ha with _ ha
    exact ha ▸ hF
  · rw [Go.Maps.has_put_other e] at hh
    rw [Go.Maps.atKey_put_other e] at ha
    exact h key' kl' c' hk' hh ha
/-- Block gm is a map of at most N entries that keeps what is so. -/
def HasMemo (P : Program) (k e : TypeId) (F : Value → Int → Prop) (gm N : Nat) (W : World) : Prop := ∃ D : DataW Unit, W.ownsMap P k (plainElem P e) gm N D ∧ Memo P k F D
theorem HasMemo.mono {P : Program} {k e : TypeId} {F : Value → Int → Prop} {gm N N' : Nat} {W : World} (h : HasMemo P k e F gm N W) (hN : N ≤ N') : HasMemo P k e F gm N' W := by
  obtain ⟨D, h1, h2⟩ := h
  exact ⟨D, h1.mono hN, h2⟩
theorem HasMemo.below {P : Program} {k e : TypeId} {F : Value → Int → Prop} {gm N : Nat} {W W' : World} (h : HasMemo P k e F gm N W) (hb : Below W.heap.size W W') : HasMemo P k e F gm N W' := by
  obtain ⟨D, h1, h2⟩ := h
  exact ⟨D, h1.kept (grown_of_below hb none) (by simp), h2⟩
theorem HasMemo.drew {P : Program} {k e : TypeId} {F : Value → Int → Prop} {gm N : Nat} {W : World} (h : HasMemo P k e F gm N W) : HasMemo P k e F gm N W.drew := by
  obtain ⟨D, h1, h2⟩ := h
  exact ⟨D, h1.drew, h2⟩
section
variable {P : Program} {ops : Array Oper} {S : World → Prop} {ds : List Nat} {md : Region.Mode} {Q : Exit → Act → World → Prop}
/-- A call of a function value in a region of open order. -/
theorem goesF_ {oi : Oper} {N : Option Tmp} {a : Act} {w : World} {K : Act → World → Prop} {g : FuncId} {x : Operand} {lb : Array Value} {as_ : Array Operand} {ts : Array TypeId} (eg : ∀ args w, (callFunc g args).run P w = .ok (.enter g args) w) (args : Array Value)
    (hw : Region.wanted oi (yielded ops a.tmps) = true) (hN : oi.dst = N) (hop : oi.op = .call { callee := .value x, args := as_, argTypes := ts }) (hx : a.eval x = .func (.func g) #[] lb) (hargs : as_.map a.eval = args)
    (h : Calls P g (args ++ lb) w fun e w' => ∃ v, e = .returned v ∧ K (a.put N v) w') : if Region.wanted oi (yielded ops a.tmps) = true then Oper.wp P oi a w K Q else K (a.put N undef) w := by
  refine call_ g (args ++ lb) hw hN ?_ h
  unfold execOp
  simp [hop, resolve, Deferred.ofValue, invoke, hx, hargs, eg]
end
-- (impl.Sea).eachFleet$1, by hand. (for 105)
-- impl_Sea_goesOn slices_Clone_int64_int64
-- FindEnv fleetsFrom Frame FrameX EachOk goesF_
def impl_Sea_eachFleet_1.T6 : Bool × List (List Nat × List Nat) := (true, [([], []), ([], []), ([1], [1]), ([], []), ([3], [3]), ([2, 4, 2], [2, 4]), ([0, 5, 5], [0, 5])])
def impl_Sea_eachFleet_1.B6 : List Nat := [0, 0, 2, 0, 8, 30, 63]
theorem impl_Sea_eachFleet_1.tab6 : rtab .any (opsOf Try.f105 6) = impl_Sea_eachFleet_1.T6 := by kernel_rfl
theorem impl_Sea_eachFleet_1.bits6 : waitsOk impl_Sea_eachFleet_1.T6.2 impl_Sea_eachFleet_1.B6 = true := by kernel_rfl
set_option maxHeartbeats 8000000 in
set_option maxRecDepth 100000 in
theorem impl_Sea_eachFleet_1.does (W0 H0 : Nat) (ships : List Int) (A2 : Option Addr) (c2 g : Nat) (lb : Array Value) (g2 g3 g4 g7 : Nat) (ad4 : Addr) (c4 : Nat) (rows : List (List Int)) (fleets : List (List Int)) (I : Nat → (Nat → Prop) → World → Prop)
    (b : Nat) (eg : ∀ args w, (callFunc g args).run Try.prog w = .ok (.enter g args) w) (hok : EachOk b g lb fleets I) (hrows : rows.length = ships.length) (hrow : ∀ j (hj : j < rows.length), rows[j] = placeOf W0 H0 ships j) (hs3 : ships.length ≤ 3) (hsc : ships.length ≤ c2) (hpl : ∀ j, (placeOf W0 H0 ships j).length ≤ 100) :
    ∀ (d : Nat) (list : List Int) (i : Nat) (M : Nat → Prop) (W : World) (A : Option Addr) (c : Nat), list.length + d = ships.length → I i M W → FindEnv W0 H0 ships A2 c2 g lb g2 g3 g4 g7 ad4 c4 rows M W → Clear M W A list → list.length ≤ c → (∀ q, q < (fleetsFrom W0 H0 ships d list).length → fleets[i + q]? = (fleetsFrom W0 H0 ships d list)[q]?) → b ≤ W.heap.size → (d = 0 → Kd.R (Kd.int .i64) 2 W b (fun _ => True) (.slice A list.length c) list) →
    Calls Try.prog 105 #[.slice A list.length c, .pointer (some ⟨g2, 0, none⟩), .pointer (some ⟨g3, 0, none⟩), .pointer (some ⟨g4, 0, none⟩), .pointer (some ⟨g7, 0, none⟩)] W fun e w' => e = .returned (.tuple #[]) ∧ ∃ M', I (i + (fleetsFrom W0 H0 ships d list).length) M' w' ∧ FrameX (fun k => some k = (Value.slice A list.length c).ownBlock) M M' W w' := by
  have eg105 : ∀ args w, (callFunc 105 args).run Try.prog w = .ok (.enter 105 args) w := enters_of Try.func105 (by kernel_rfl) rfl
  have HOK := Aside0.mk hok
  have HRows := Aside0.mk hrows
  have HRow := Aside0.mk hrow
  have HS3 := Aside0.mk hs3
  have HSc := Aside0.mk hsc
  have HPl := Aside0.mk hpl
  clear hok hrows hrow hs3 hsc hpl
  have hu28 := Try.underlying28
  intro d
  induction d with
  | zero =>
    intro list i M W A c hd hi hE hL hc hfl hb0 hown
    have HOw := Aside0.mk (hown rfl)
    have HI := Aside0.mk hi
    have HE := Aside0.mk hE
    have HL := Aside0.mk hL
    have HLc := Aside0.mk hc
    have HFl := Aside0.mk (show fleets[i]? = some list by have := hfl 0 (by simp [fleetsFrom]); simpa [fleetsFrom] using this)
    have heq : ((list.length : Int) == (ships.length : Int)) = true := beq_iff_eq.mpr (by omega)
    have heqn : (list.length == ships.length) = true := beq_iff_eq.mpr (by omega)
    have hs0 := (blk_cell HE.out.sea 0).trans rfl
    have hs1 := (blk_cell HE.out.sea 1).trans rfl
    have hs2 := (blk_cell HE.out.sea 2).trans rfl
    have he0 := (blk_cell HE.out.each 0).trans rfl
    have ha0 := (blk_cell HE.out.all 0).trans rfl
    have hf0 := (blk_cell HE.out.find 0).trans rfl
    clear hi hE hL hc hfl hd hb0 hown
    go_enter Try.func105, Try.ntmps105
    go_wp2_with (first | (go_at_fn g; refine (HOK.out.call i M W A c list HI.out HFl.out HL.out HLc.out HOw.out).mono ?_; rintro e w1 ⟨rfl, M1, hi, hf⟩; have HI1 := Aside0.mk hi; have HF1 := Aside0.mk hf; clear hi hf))
    refine bodyPost_ret (results_none rfl _ _ _) rfl ?_
    exact ⟨rfl, M1, by simpa [fleetsFrom] using HI1.out, HF1.out⟩
  | succ d ih =>
    intro list i M W A c hd hi hE hL hc hfl hb0 hown
    have HBq := Aside0.mk hb0
    have HIH := Aside0.mk ih
    have HI0 := Aside0.mk hi
    have HE0 := Aside0.mk hE
    have HL0 := Aside0.mk hL
    have HLc := Aside0.mk hc
    have HD := Aside0.mk hd
    have hne : ((list.length : Int) == (ships.length : Int)) = false := beq_eq_false_iff_ne.mpr (by omega)
    have hnen : (list.length == ships.length) = false := beq_eq_false_iff_ne.mpr (by omega)
    obtain ⟨P, hP⟩ : ∃ P, placeOf W0 H0 ships list.length = P := ⟨_, rfl⟩
    have hPl : P.length ≤ 100 := by rw [← hP]; exact HPl.out _
    obtain ⟨Aj, cj, hcell, hcj, hrowC⟩ := hE.cell list.length (by rw [HRows.out]; omega)
    rw [HRow.out, hP] at hcell hcj hrowC
    obtain ⟨F, hF⟩ : ∃ F : Int → List (List Int), F = fun own => if goesV ships list own = true then fleetsFrom W0 H0 ships d (list ++ [own]) else [] := ⟨_, rfl⟩
    have hff : fleetsFrom W0 H0 ships (d + 1) list = P.flatMap F := by rw [← hP, hF]; rfl
    rw [hff] at hfl ⊢
    have HFl := Aside0.mk hfl
    have HFd := Aside0.mk hF
    have HRC := Aside0.mk hrowC
    have HPL := Aside0.mk hPl
    have HCl := Aside0.mk (show slices_Clone_int64_int64.f list = some list by unfold slices_Clone_int64_int64.f; rw [if_pos (by have := HS3.out; omega)])
    have HRoom := Aside0.mk (show (list.length + 1) * 8 ≤ 140737488355328 by have := HS3.out; omega)
    have qa := eq_true (show (list.length : Int) < (rows.length : Int) by rw [HRows.out]; omega)
    have qb := eq_true (show list.length < rows.length by rw [HRows.out]; omega)
    have qc := eq_true (show (0 : Int) ≤ (list.length : Int) by omega)
    have hs0 := (blk_cell HE0.out.sea 0).trans rfl
    have hs1 := (blk_cell HE0.out.sea 1).trans rfl
    have hs2 := (blk_cell HE0.out.sea 2).trans rfl
    have he0 := (blk_cell HE0.out.each 0).trans rfl
    have ha0 := (blk_cell HE0.out.all 0).trans rfl
    have hf0 := (blk_cell HE0.out.find 0).trans rfl
    clear hi hE hL hc hfl hd hb0 hown ih hff hF hP hrowC hPl hcj
    go_enter Try.func105, Try.ntmps105
    go_wp2_with fail
    (try clear hs0)
    (try clear hs1)
    (try clear hs2)
    (try clear he0)
    (try clear ha0)
    (try clear hf0)
    go_loopg [23] P.length (fun gg s23 wr => ∃ (j : Nat) (Mj : Nat → Prop), j ≤ P.length ∧ P.length - j ≤ gg ∧ s23 = .int .i64 j ∧ Aside0 (I (i + ((P.take j).flatMap F).length) Mj wr) ∧ Aside0 (Frame M Mj W wr))
    case atStart => exact ⟨0, M, Nat.zero_le _, by omega, rfl, ⟨by simpa using HI0.out⟩, ⟨Frame.refl M W⟩⟩
    case round =>
      obtain ⟨j, Mj, hj, hgj, rfl, HI, HFr⟩ := hrel
      by_cases hlt : j < P.length
      · have HEj := Aside0.mk (HE0.out.frame HFr.out)
        have HLj := Aside0.mk (HL0.out.frame HFr.out)
        have HRj := Aside0.mk (HRC.out.frame HFr.out)
        obtain ⟨adj, rfl, hxj⟩ := Kd.at_int HRj.out.1 (j : Int) (by omega) (by omega)
        rw [Int.toNat_natCast, rd_get P j hlt] at hxj
        have HOwn := Aside0.mk (rfl : P[j] = P[j])
        obtain ⟨own, hown⟩ : ∃ own, P[j] = own := ⟨_, rfl⟩
        rw [hown] at hxj
        have HOw := Aside0.mk hown
        clear HOwn hown
        have q1 := decide_eq_true (show (j : Int) < (P.length : Int) by omega)
        have q2 := decide_eq_true hlt
        have q3 := eq_true (show (j : Int) < (P.length : Int) by omega)
        have q4 := eq_true (show (0 : Int) ≤ (j : Int) by omega)
        have q5 := eq_true hlt
        have HCnt := Aside0.mk (flat_take F P j hlt)
        have HAt := Aside0.mk (fun q => flat_at F P j q hlt)
        have HJm := Aside0.mk (show P.length - (j + 1) < gk by omega)
        have HJr := Aside0.mk (show j + 1 ≤ P.length by omega)
        have HJs := Aside0.mk (show wrap64 ((j : Int) + 1) = ((j + 1 : Nat) : Int) from wrap_one (a := j) (by have := HPL.out; omega))
        have hs0 := (blk_cell HEj.out.sea 0).trans rfl
        have hs1 := (blk_cell HEj.out.sea 1).trans rfl
        have hs2 := (blk_cell HEj.out.sea 2).trans rfl
        have he0 := (blk_cell HEj.out.each 0).trans rfl
        have ha0 := (blk_cell HEj.out.all 0).trans rfl
        have hf0 := (blk_cell HEj.out.find 0).trans rfl
        have HGo := Aside0.mk (show impl_Sea_goesOn.f (W0 : Int) (H0 : Int) ships list own = some (goesV ships list own) by unfold impl_Sea_goesOn.f; rw [if_pos ⟨by have := HD.out; omega, by have := HS3.out; omega⟩])
        have HFv := Aside0.mk (show F own = if goesV ships list own = true then fleetsFrom W0 H0 ships d (list ++ [own]) else [] by rw [HFd.out])
        rw [HOw.out] at HCnt HAt
        generalize goesV ships list own = bg at HGo HFv
        cases bg with
        | false =>
          have HZ := Aside0.mk (show i + ((P.take (j + 1)).flatMap F).length = i + ((P.take j).flatMap F).length by rw [HCnt.out, HFv.out, if_neg (by simp)]; rfl)
          go_wp2_with (first | (go_at_call 103; refine (impl_Sea_goesOn.calls (W0 : Int) (H0 : Int) A2 c2 ships A c list own _ _ HEj.out.ships.1 HSc.out HLj.out.1 HLc.out HGo.out).mono ?_; rintro e w1 ⟨rfl, hb⟩; have HB1 := Aside0.mk hb; clear hb))
          go_roundg (P.length - (j + 1))
          case measure => exact HJm.out
          case rel => exact ⟨j + 1, Mj, HJr.out, Nat.le_refl _, (by first | rfl | exact congrArg (Value.int .i64) HJs.out), ⟨by rw [HZ.out]; exact HOK.out.stay _ _ _ _ HI.out HB1.out⟩, ⟨HFr.out.trans (Frame.below HB1.out)⟩⟩
        | true =>
          have HZ := Aside0.mk (show i + ((P.take (j + 1)).flatMap F).length = i + ((P.take j).flatMap F).length + (fleetsFrom W0 H0 ships d (list ++ [own])).length by rw [HCnt.out, HFv.out, if_pos rfl]; omega)
          go_wp2_with (first | (go_at_call 103; refine (impl_Sea_goesOn.calls (W0 : Int) (H0 : Int) A2 c2 ships A c list own _ _ HEj.out.ships.1 HSc.out HLj.out.1 HLc.out HGo.out).mono ?_; rintro e w1 ⟨rfl, hb⟩; have HB1 := Aside0.mk hb; clear hb))
          (try clear hs0)
          (try clear hs1)
          (try clear hs2)
          (try clear he0)
          (try clear ha0)
          (try clear hf0)
          have HFr1 := Aside0.mk (HFr.out.trans (Frame.below (M := Mj) HB1.out))
          have n1_ := Aside0.mk (HEj.out.frame (Frame.below (M := Mj) HB1.out))
          have n2_ := Aside0.mk (HLj.out.frame (Frame.below (M := Mj) HB1.out))
          have n3_ := Aside0.mk (HOK.out.stay _ _ _ _ HI.out HB1.out)
          clear HEj HLj HRj HI HB1 hxj
          have HFd1 := Aside0.mk (HFr1.out.trans (Frame.below (M := Mj) (below_drew1 (Below.refl _ _))))
          have HEd := Aside0.mk (n1_.out.frame (Frame.below (M := Mj) (below_drew1 (Below.refl _ _))))
          have HLd := Aside0.mk (n2_.out.frame (Frame.below (M := Mj) (below_drew1 (Below.refl _ _))))
          have HId := Aside0.mk (HOK.out.stay _ _ _ _ n3_.out (below_drew1 (Below.refl _ _)))
          clear n1_ n2_ n3_ HFr1
          have HBd := Aside0.mk (Nat.le_trans HBq.out HFd1.out.2.2.2.1)
          have HLen := Aside0.mk (show (list ++ [own]).length + d = ships.length by have := HD.out; simp; omega)
          have HIdx := Aside0.mk (fun q (hq : q < (fleetsFrom W0 H0 ships d (list ++ [own])).length) => show fleets[i + ((P.take j).flatMap F).length + q]? = (fleetsFrom W0 H0 ships d (list ++ [own]))[q]? by
            have e : F own = fleetsFrom W0 H0 ships d (list ++ [own]) := by rw [HFv.out]; simp
            have h1 := HAt.out q (by rw [e]; exact hq)
            rw [e, List.getElem?_eq_getElem hq] at h1
            have hlt := (List.getElem?_eq_some_iff.1 h1).1
            rw [Nat.add_assoc, HFl.out _ hlt, h1, List.getElem?_eq_getElem hq])
          refine start_ (n := 7) (S := fun w' => w'.cell? ⟨g7, 0, none⟩ = some (.func (.func 105) #[] #[.pointer (some ⟨g2, 0, none⟩), .pointer (some ⟨g3, 0, none⟩), .pointer (some ⟨g4, 0, none⟩), .pointer (some ⟨g7, 0, none⟩)])) (ds := []) #[false, false, false, false, false, false, false] (by kernel_rfl) rfl rfl ((blk_cell HEd.out.find 0).trans rfl) (fun hHeld => ?_)
          refine with_tabW impl_Sea_eachFleet_1.tab6 impl_Sea_eachFleet_1.bits6 (fun HT_ HW_ => ?_)
          generalize hq_ : w1.drew = wd_ at HEd HLd HId HFd1 HBd hHeld ⊢
          clear hq_
          have HBr := Aside0.mk (Below.refl wd_.heap.size wd_)
          refine pure_ (i := 1) (N := some 32) (v := ?_) (a' := ?_) (flg_ 7 2) rfl rfl (any_of HT_.out (by kernel_rfl)) (fun _ _ _ h => h) (Or.inl ⟨by rfl, ?_⟩) ?_ ?_
          rotate_left
          · intro w'
            go_simp
            with_reducible rfl
          rotate_left
          · simp only [Act.put, sz_, s0_, s1_, i64_w, i32_w]
            rfl
          refine pure_ (i := 3) (N := some 34) (v := ?_) (a' := ?_) (flg_ 7 10) rfl rfl (any_of HT_.out (by kernel_rfl)) (fun _ _ _ h => h) (Or.inl ⟨by rfl, ?_⟩) ?_ ?_
          rotate_left
          · intro w'
            go_simp
            with_reducible rfl
          rotate_left
          · simp only [Act.put, sz_, s0_, s1_, i64_w, i32_w]
            rfl
          refine take_ (i := 0) (N := some 31) (v := ?_) (a' := ?_) (flg_ 7 11) rfl rfl (take_ofW HT_.out HW_.out (by kernel_rfl)) (fun _ _ _ h => h) (Or.inl ⟨by rfl, ?_⟩) hHeld ?_ ?_
          rotate_left
          · rintro w' s0_
            go_simp
            with_reducible rfl
          rotate_left
          · simp only [Act.put, sz_, s0_, s1_, i64_w, i32_w]
            rfl
          refine two_ (i := 2) (j := 4) (Ni := some 33) (Nj := some 35) (flg_ 7 15) (flg_ 7 27) rfl rfl rfl rfl (two_of HT_.out (by kernel_rfl)) (by decide) (by decide) (fun K hK => ?_) (fun K hK => ?_)
          · refine goes_ Try.func106 (by kernel_rfl) rfl #[.slice A list.length c] (by rfl) rfl rfl (by (try simp only [List.map_toArray, List.map_cons, List.map_nil]); first | done | rfl) ?_
            refine (slices_Clone_int64_int64.calls A c list list _ (Kd.C_below HLd.out.1 HBr.out) HLc.out HCl.out).mono ?_
            rintro e wk_ ⟨v33, rfl, ho, hb⟩
            refine ⟨_, rfl, ?_⟩
            have HV := Aside0.mk (Kd.R_lower ho (below_size HBr.out))
            clear ho
            have nB_ := Aside0.mk (below_step HBr.out hb)
            clear hb HBr
            have HBr := nB_
            clear nB_
            refine hK.out _ _ ((blk_cell (blk_below HEd.out.find HBr.out) 0).trans rfl) (fun hHeld => ?_)
            clear hK K
            refine norm_ (a' := ?_) ?_ ?_
            rotate_left
            · show Act.put _ (some 33) _ = _
              simp only [Act.put, sz_, s0_, s1_, i64_w, i32_w]
              rfl
            refine one_ (i := 4) (N := some 35) (flg_ 7 31) rfl rfl (one_of HT_.out (by kernel_rfl)) (by decide) (fun K hK => ?_)
            refine Kd.R_lit_step (Kd.int .i64) _ 2 ?hg (N := 35) ?hd (xs := ([own] : List Int)) (inner := [.int .i64 own]) (ok := fun _ => True) (okp := fun _ => True) ?hr ?hp (fun _ hk => hk) trivial (Below.refl _ _) (Nat.le_refl _) (by simp) ?_; (case hd => rfl); (case hg => rfl); (case hr => first | (go_simp; done) | (go_simp; rfl)); (case hp => exact (Reps.one (show Kd.M (Kd.int .i64) _ _ _ own [.int .i64 own] from rfl) (Reps.none _ _)))
            intro v35 wl_ ho hb hg_ hnew_
            clear hg_ hnew_
            have HX := Aside0.mk (Kd.R_lower ho (below_size HBr.out))
            clear ho
            have nB_ := Aside0.mk (below_step HBr.out hb)
            have nHV_ := Aside0.mk (Kd.R_below HV.out hb)
            clear hb HBr HV
            have HBr := nB_
            have HV := nHV_
            clear nB_ nHV_
            refine hK.out _ _ ((blk_cell (blk_below HEd.out.find HBr.out) 0).trans rfl) (fun hHeld => ?_)
            clear hK K
            refine norm_ (a' := ?_) ?_ ?_
            rotate_left
            · show Act.put _ (some 35) _ = _
              simp only [Act.put, sz_, s0_, s1_, i64_w, i32_w]
              rfl
            obtain ⟨A35, c35, e35⟩ := Kd.R_slice HX.out
            subst e35
            refine one_ (i := 5) (N := some 36) (flg_ 7 63) rfl rfl (one_of HT_.out (by kernel_rfl)) (by decide) (fun K hK => ?_)
            refine Kd.R_append_rows_step (Kd.int .i64) (w0 := wd_) wd_.heap.size (by rfl) (.tmp 33) (.tmp 35) 22 2 (.int .i64 0) 8 rfl Try.underlying22 info2 rfl (by decide) (by omega) v33 list [own] _ _ _ (fun _ => True) (fun _ => False) rfl rfl HV.out (Kd.R_reads' HX.out).2.2 (fun _ _ h => h) (fun _ h => h.elim) (fun _ _ => trivial) HBr.out (below_size HBr.out) HRoom.out ?_
            intro v36 wp_ ho hb hg hat
            have HN := Aside0.mk ho
            have nB_ := Aside0.mk hb
            clear ho hb hg hat HBr HV HX
            have HBr := nB_
            clear nB_
            obtain ⟨A36, c36, e36⟩ := Kd.R_slice HN.out
            subst e36
            refine hK.out _ _ ((blk_cell (blk_below HEd.out.find HBr.out) 0).trans rfl) (fun hHeld => ?_)
            clear hK K
            refine norm_ (a' := ?_) ?_ ?_
            rotate_left
            · show Act.put _ (some 36) _ = _
              simp only [Act.put, sz_, s0_, s1_, i64_w, i32_w]
              rfl
            refine one_ (i := 6) (N := some 37) (flg_ 7 127) rfl rfl (one_of HT_.out (by kernel_rfl)) (by decide) (fun K hK => ?_)
            refine goesF_ (x := .tmp 31) (lb := #[.pointer (some ⟨g2, 0, none⟩), .pointer (some ⟨g3, 0, none⟩), .pointer (some ⟨g4, 0, none⟩), .pointer (some ⟨g7, 0, none⟩)]) eg105 #[.slice A36 (list ++ [own]).length c36] (by rfl) rfl rfl rfl (by (try simp only [List.map_toArray, List.map_cons, List.map_nil]); first | done | rfl) ?_
            refine (HIH.out (list ++ [own]) _ Mj wp_ A36 c36 HLen.out (HOK.out.stay _ _ _ _ HId.out HBr.out) (HEd.out.frame (Frame.below HBr.out)) (clear_new HN.out (HOK.out.own _ _ _ HId.out)) (Kd.R_reads' HN.out).2.1 HIdx.out (Nat.le_trans HBd.out (below_size HBr.out)) (fun _ => Kd.R_lower HN.out HBd.out)).mono ?_
            rintro e wf_ ⟨rfl, M2, hi2, hf2⟩
            refine ⟨_, rfl, ?_⟩
            have HI2 := Aside0.mk hi2
            have hfx := (Frame.below (M := Mj) HBr.out).transX hf2 (fun k hk => Kd.R_base HN.out k hk.symm)
            have HF2 := Aside0.mk (HFd1.out.trans hfx)
            have HE2 := Aside0.mk (HEd.out.frame hfx)
            clear hi2 hf2 hfx HN HBr
            refine hK.out _ _ ((blk_cell HE2.out.find 0).trans rfl) (fun hHeld => ?_)
            clear hK K
            refine norm_ (a' := ?_) ?_ ?_
            rotate_left
            · show Act.put _ (some 37) _ = _
              simp only [Act.put, sz_, s0_, s1_, i64_w, i32_w]
              rfl
            refine done_ (done_of HT_.out (by kernel_rfl)) ?_
            go_wp2_with fail
            go_roundg (P.length - (j + 1))
            case measure => exact HJm.out
            case rel => exact ⟨j + 1, M2, HJr.out, Nat.le_refl _, (by first | rfl | exact congrArg (Value.int .i64) HJs.out), ⟨by rw [HZ.out]; exact HI2.out⟩, HF2⟩
          · refine Kd.R_lit_step (Kd.int .i64) _ 2 ?hg (N := 35) ?hd (xs := ([own] : List Int)) (inner := [.int .i64 own]) (ok := fun _ => True) (okp := fun _ => True) ?hr ?hp (fun _ hk => hk) trivial (Below.refl _ _) (Nat.le_refl _) (by simp) ?_; (case hd => rfl); (case hg => rfl); (case hr => first | (go_simp; done) | (go_simp; rfl)); (case hp => exact (Reps.one (show Kd.M (Kd.int .i64) _ _ _ own [.int .i64 own] from rfl) (Reps.none _ _)))
            intro v35 wl_ ho hb hg_ hnew_
            clear hg_ hnew_
            have HX := Aside0.mk (Kd.R_lower ho (below_size HBr.out))
            clear ho
            have nB_ := Aside0.mk (below_step HBr.out hb)
            clear hb HBr
            have HBr := nB_
            clear nB_
            refine hK.out _ _ ((blk_cell (blk_below HEd.out.find HBr.out) 0).trans rfl) (fun hHeld => ?_)
            clear hK K
            refine norm_ (a' := ?_) ?_ ?_
            rotate_left
            · show Act.put _ (some 35) _ = _
              simp only [Act.put, sz_, s0_, s1_, i64_w, i32_w]
              rfl
            refine one_ (i := 2) (N := some 33) (flg_ 7 31) rfl rfl (one_of HT_.out (by kernel_rfl)) (by decide) (fun K hK => ?_)
            refine goes_ Try.func106 (by kernel_rfl) rfl #[.slice A list.length c] (by rfl) rfl rfl (by (try simp only [List.map_toArray, List.map_cons, List.map_nil]); first | done | rfl) ?_
            refine (slices_Clone_int64_int64.calls A c list list _ (Kd.C_below HLd.out.1 HBr.out) HLc.out HCl.out).mono ?_
            rintro e wk_ ⟨v33, rfl, ho, hb⟩
            refine ⟨_, rfl, ?_⟩
            have HV := Aside0.mk (Kd.R_lower ho (below_size HBr.out))
            clear ho
            have nB_ := Aside0.mk (below_step HBr.out hb)
            have nHX_ := Aside0.mk (Kd.R_below HX.out hb)
            clear hb HBr HX
            have HBr := nB_
            have HX := nHX_
            clear nB_ nHX_
            refine hK.out _ _ ((blk_cell (blk_below HEd.out.find HBr.out) 0).trans rfl) (fun hHeld => ?_)
            clear hK K
            refine norm_ (a' := ?_) ?_ ?_
            rotate_left
            · show Act.put _ (some 33) _ = _
              simp only [Act.put, sz_, s0_, s1_, i64_w, i32_w]
              rfl
            obtain ⟨A35, c35, e35⟩ := Kd.R_slice HX.out
            subst e35
            refine one_ (i := 5) (N := some 36) (flg_ 7 63) rfl rfl (one_of HT_.out (by kernel_rfl)) (by decide) (fun K hK => ?_)
            refine Kd.R_append_rows_step (Kd.int .i64) (w0 := wd_) wd_.heap.size (by rfl) (.tmp 33) (.tmp 35) 22 2 (.int .i64 0) 8 rfl Try.underlying22 info2 rfl (by decide) (by omega) v33 list [own] _ _ _ (fun _ => True) (fun _ => False) rfl rfl HV.out (Kd.R_reads' HX.out).2.2 (fun _ _ h => h) (fun _ h => h.elim) (fun _ _ => trivial) HBr.out (below_size HBr.out) HRoom.out ?_
            intro v36 wp_ ho hb hg hat
            have HN := Aside0.mk ho
            have nB_ := Aside0.mk hb
            clear ho hb hg hat HBr HV HX
            have HBr := nB_
            clear nB_
            obtain ⟨A36, c36, e36⟩ := Kd.R_slice HN.out
            subst e36
            refine hK.out _ _ ((blk_cell (blk_below HEd.out.find HBr.out) 0).trans rfl) (fun hHeld => ?_)
            clear hK K
            refine norm_ (a' := ?_) ?_ ?_
            rotate_left
            · show Act.put _ (some 36) _ = _
              simp only [Act.put, sz_, s0_, s1_, i64_w, i32_w]
              rfl
            refine one_ (i := 6) (N := some 37) (flg_ 7 127) rfl rfl (one_of HT_.out (by kernel_rfl)) (by decide) (fun K hK => ?_)
            refine goesF_ (x := .tmp 31) (lb := #[.pointer (some ⟨g2, 0, none⟩), .pointer (some ⟨g3, 0, none⟩), .pointer (some ⟨g4, 0, none⟩), .pointer (some ⟨g7, 0, none⟩)]) eg105 #[.slice A36 (list ++ [own]).length c36] (by rfl) rfl rfl rfl (by (try simp only [List.map_toArray, List.map_cons, List.map_nil]); first | done | rfl) ?_
            refine (HIH.out (list ++ [own]) _ Mj wp_ A36 c36 HLen.out (HOK.out.stay _ _ _ _ HId.out HBr.out) (HEd.out.frame (Frame.below HBr.out)) (clear_new HN.out (HOK.out.own _ _ _ HId.out)) (Kd.R_reads' HN.out).2.1 HIdx.out (Nat.le_trans HBd.out (below_size HBr.out)) (fun _ => Kd.R_lower HN.out HBd.out)).mono ?_
            rintro e wf_ ⟨rfl, M2, hi2, hf2⟩
            refine ⟨_, rfl, ?_⟩
            have HI2 := Aside0.mk hi2
            have hfx := (Frame.below (M := Mj) HBr.out).transX hf2 (fun k hk => Kd.R_base HN.out k hk.symm)
            have HF2 := Aside0.mk (HFd1.out.trans hfx)
            have HE2 := Aside0.mk (HEd.out.frame hfx)
            clear hi2 hf2 hfx HN HBr
            refine hK.out _ _ ((blk_cell HE2.out.find 0).trans rfl) (fun hHeld => ?_)
            clear hK K
            refine norm_ (a' := ?_) ?_ ?_
            rotate_left
            · show Act.put _ (some 37) _ = _
              simp only [Act.put, sz_, s0_, s1_, i64_w, i32_w]
              rfl
            refine done_ (done_of HT_.out (by kernel_rfl)) ?_
            go_wp2_with fail
            go_roundg (P.length - (j + 1))
            case measure => exact HJm.out
            case rel => exact ⟨j + 1, M2, HJr.out, Nat.le_refl _, (by first | rfl | exact congrArg (Value.int .i64) HJs.out), ⟨by rw [HZ.out]; exact HI2.out⟩, HF2⟩
      · have hje : j = P.length := by omega
        subst hje
        have q1 := decide_eq_false (show ¬ (P.length : Int) < (P.length : Int) by omega)
        go_wp2_with fail
        go_end0
        exact ⟨rfl, Mj, by have := HI.out; rwa [List.take_length] at this, HFr.out.x⟩
/-! ### impl_Sea_eachFleet: function 65 -/
-- EXTERNAL: by hand
-- impl_Sea_placements
-- FindEnv fleetsFrom Frame FrameX EachOk run_store_func lit_event
attribute [local go_sem] run_store_func
def rowsE (W0 H0 : Nat) (ships : List Int) (i : Nat) : List (List Int) := (List.range i).map (placeOf W0 H0 ships)
theorem rowsE_len (W0 H0 : Nat) (ships : List Int) (i : Nat) : (rowsE W0 H0 ships i).length = i := by simp [rowsE]
def impl_Sea_eachFleet.T5 : Bool × List (List Nat × List Nat) := (true, [([], []), ([], []), ([], []), ([1, 2], [1, 2]), ([3], [3]), ([0, 4, 3], [0, 4]), ([5, 5, 0, 1, 2, 3, 4, 5], [5])])
def impl_Sea_eachFleet.B5 : List Nat := [0, 0, 0, 6, 14, 31, 63]
theorem impl_Sea_eachFleet.tab5 : rtab .any (opsOf Try.f65 5) = impl_Sea_eachFleet.T5 := by kernel_rfl
theorem impl_Sea_eachFleet.bits5 : waitsOk impl_Sea_eachFleet.T5.2 impl_Sea_eachFleet.B5 = true := by kernel_rfl
/-- The recursion's start: nothing is placed. -/
theorem each_find (W0 H0 : Nat) (ships : List Int) (A2 : Option Addr) (c2 g : Nat) (lb : Array Value) (g2 g3 g4 g7 : Nat) (Au : Option Addr) (nu cu : Nat) (I : Nat → (Nat → Prop) → World → Prop)
    (b : Nat) (eg : ∀ args w, (callFunc g args).run Try.prog w = .ok (.enter g args) w) (hok : EachOk b g lb (fleetsFrom W0 H0 ships ships.length []) I) (hsz : 1 ≤ ships.length ∧ ships.length ≤ 3) (hsc : ships.length ≤ c2) (hpl : ∀ j, (placeOf W0 H0 ships j).length ≤ 100)
    (w W : World) (hb0 : b ≤ w.heap.size) (M0 : Nat → Prop) (hI : I 0 M0 w) (hB : Below w.heap.size w W) (h2 : W.heap[g2]? = some (.cells #[.int .i64 (W0 : Int), .int .i64 (H0 : Int), .slice A2 ships.length c2] 28 (0, 0))) (h3 : W.heap[g3]? = some (.cells #[.func (.func g) #[] lb] 76 (0, 0))) (h4 : W.heap[g4]? = some (.cells #[.slice Au nu cu] 42 (0, 0))) (h7 : W.heap[g7]? = some (.cells #[.func (.func 105) #[] #[.pointer (some ⟨g2, 0, none⟩), .pointer (some ⟨g3, 0, none⟩), .pointer (some ⟨g4, 0, none⟩), .pointer (some ⟨g7, 0, none⟩)]] 76 (0, 0)))
    (hg : w.heap.size ≤ g2 ∧ w.heap.size ≤ g3 ∧ w.heap.size ≤ g4 ∧ w.heap.size ≤ g7) {okS : Nat → Prop} (hS : Kd.S (Kd.slice 2 (Kd.int .i64)) 22 W w.heap.size okS (.slice Au nu cu) (rowsE W0 H0 ships ships.length)) (hcl : Clear M0 w A2 ships) :
    Calls Try.prog 105 (#[.slice none 0 0] ++ #[.pointer (some ⟨g2, 0, none⟩), .pointer (some ⟨g3, 0, none⟩), .pointer (some ⟨g4, 0, none⟩), .pointer (some ⟨g7, 0, none⟩)]) W fun e w' => e = .returned (.tuple #[]) ∧ ∃ M', I (fleetsFrom W0 H0 ships ships.length []).length M' w' ∧ Frame M0 M' w w' := by
  have hM : ∀ k, M0 k → k < w.heap.size := hok.own _ _ _ hI
  have hfr : Frame M0 M0 w W := Frame.below hB
  have hI2 := hok.stay _ _ _ _ hI hB
  have hR := Kd.S_R hS
  have hlen := (Kd.R_reads' hR).1
  rw [rowsE_len] at hlen
  subst hlen
  obtain ⟨ga, ca, ea, hba, hla, _⟩ := Kd.R_form hR (by rw [rowsE_len]; exact hsz.1)
  rw [rowsE_len] at ea
  injection ea with e1 _ e3
  subst e1 e3
  have hn : ∀ k, w.heap.size ≤ k → ¬ M0 k := fun k hk h => by have := hM k h; omega
  have hE : FindEnv W0 H0 ships A2 c2 g lb g2 g3 g4 g7 ⟨ga, 0, none⟩ cu (rowsE W0 H0 ships ships.length) M0 W := {
    sea := h2, each := h3, all := by rw [rowsE_len]; exact h4, find := h7
    not2 := hn _ hg.1, not3 := hn _ hg.2.1, not4 := hn _ hg.2.2.1, not7 := hn _ hg.2.2.2
    cells := ⟨hla, hn _ hba⟩
    ships := hcl.frame hfr
    cell := fun j hj => by
      obtain ⟨c, hl, hMM, hcc, _⟩ := Kd.R_elem hR [] (j : Int) (by omega) (by rw [rowsE_len] at hj; omega)
      rw [Int.toNat_natCast, List.getD_eq_getElem?_getD, List.getElem?_eq_getElem hj, Option.getD_some] at hMM
      rw [Int.toNat_natCast] at hcc
      obtain ⟨v, hc, hRR⟩ := hMM
      subst hc
      obtain ⟨Aj, cj, ej⟩ := Kd.R_slice hRR
      subst ej
      refine ⟨Aj, cj, ?_, (Kd.R_reads' hRR).2.1, clear_new hRR hM⟩
      have h5 := hcc 0 _ rfl
      rw [show (Kd.slice 2 (Kd.int .i64)).sz = 1 from rfl, Nat.mul_one, Nat.add_zero] at h5
      rw [add_at, Nat.zero_add]
      exact h5 }
  have h := impl_Sea_eachFleet_1.does W0 H0 ships A2 c2 g lb g2 g3 g4 g7 ⟨ga, 0, none⟩ cu (rowsE W0 H0 ships ships.length) (fleetsFrom W0 H0 ships ships.length []) I b eg hok (rowsE_len _ _ _ _) (fun j hj => by simp [rowsE]) hsz.2 hsc hpl ships.length [] 0 M0 W none 0 (by simp) hI2 hE ⟨⟨rfl, by simp, fun hp => absurd hp (by simp)⟩, fun h => absurd h (by simp)⟩ (Nat.le_refl _) (fun q hq => by rw [Nat.zero_add]) (Nat.le_trans hb0 (below_size hB)) (fun h0 => absurd h0 (by omega))
  refine h.mono ?_
  rintro e w' ⟨rfl, M', hi, hf⟩
  exact ⟨rfl, M', by rw [Nat.zero_add] at hi; exact hi, hfr.transX hf (fun k hk => by cases hk)⟩
set_option maxHeartbeats 8000000 in
set_option maxRecDepth 100000 in
theorem impl_Sea_eachFleet.does (W0 H0 : Nat) (ships : List Int) (A2 : Option Addr) (c2 g : Nat) (lb : Array Value) (I : Nat → (Nat → Prop) → World → Prop) (b : Nat) (eg : ∀ args w, (callFunc g args).run Try.prog w = .ok (.enter g args) w) (hok : EachOk b g lb (fleetsFrom W0 H0 ships ships.length []) I) (hw : 1 ≤ W0 ∧ W0 ≤ 5) (hh : 1 ≤ H0 ∧ H0 ≤ 5)
    (hsz : 1 ≤ ships.length ∧ ships.length ≤ 3) (hsin : ∀ j : Nat, j < ships.length → inW (rd ships (j : Int)) 1 5 = true) (hsc : ships.length ≤ c2) (hpl : ∀ j, (placeOf W0 H0 ships j).length ≤ 100) (w : World) (hb0 : b ≤ w.heap.size) (M0 : Nat → Prop) (hI : I 0 M0 w) (hcl : Clear M0 w A2 ships) :
    Calls Try.prog 65 #[.agg #[.int .i64 (W0 : Int), .int .i64 (H0 : Int), .slice A2 ships.length c2], .func (.func g) #[] lb] w fun e w' => e = .returned (.tuple #[]) ∧ ∃ M', I (fleetsFrom W0 H0 ships ships.length []).length M' w' ∧ Frame M0 M' w w' := by
  have eg105 : ∀ args w, (callFunc 105 args).run Try.prog w = .ok (.enter 105 args) w := enters_of Try.func105 (by kernel_rfl) rfl
  have HEG := Aside0.mk eg
  have HBw := Aside0.mk hb0
  have HOK := Aside0.mk hok
  have HW := Aside0.mk (And.intro hw hh)
  have HSz := Aside0.mk hsz
  have HSI := Aside0.mk hsin
  have HC2 := Aside0.mk hsc
  have HPl := Aside0.mk hpl
  have HI := Aside0.mk hI
  have HCl := Aside0.mk hcl
  have HSH := Aside0.mk (fun W (hb : Below w.heap.size w W) => (hcl.frame (Frame.below (M := M0) hb)).1)
  have HB := Aside0.mk (Below.refl w.heap.size w)
  have hu28 := Try.underlying28
  clear hok hw hh hsz hsin hsc hpl hI hcl eg hb0
  go_enter Try.func65, Try.ntmps65
  go_wp2_with (first | ((with_reducible refine gate_dst (N := 2) rfl ?_); refine box_event ?hg (N := 2) ?hd (cs := #[.int .i64 (W0 : Int), .int .i64 (H0 : Int), .slice A2 ships.length c2]) (t := 28) ?hr ?_; (case hd => rfl); (case hg => rfl); (case hr => first | (go_simp; done) | (go_simp; rfl)); intro g2 hg2 w1 hbox hb; have HX2 := Aside0.mk hbox; have HG2 := Aside0.mk (show w.heap.size ≤ g2 by omega); have n_ := Aside0.mk (below_step HB.out hb); clear HB; have HB := n_; clear n_; clear hbox hb hg2) | ((with_reducible refine gate_dst (N := 3) rfl ?_); refine box_event ?hg (N := 3) ?hd (cs := #[.func (.func g) #[] lb]) (t := 76) ?hr ?_; (case hd => rfl); (case hg => rfl); (case hr => first | (go_simp; done) | (go_simp; rfl)); intro g3 hg3 w2 hbox hb; have HX3 := Aside0.mk hbox; have HG3 := Aside0.mk (show w.heap.size ≤ g3 ∧ g2 ≠ g3 by have := below_size HB.out; have := blk_lt HX2.out; omega); have n_ := Aside0.mk (blk_below HX2.out hb); clear HX2; have HX2 := n_; clear n_; have n_ := Aside0.mk (below_step HB.out hb); clear HB; have HB := n_; clear n_; clear hbox hb hg3) | ((with_reducible refine gate_dst (N := 8) rfl ?_); refine Kd.S_lit (Kd.slice 2 (Kd.int .i64)) _ 22 ?hg (N := 8) ?hd (xs := ([] : List (List Int))) (inner := []) (ok := fun _ => True) (okp := fun _ => True) ?hr ?hp (fun _ hk => hk) trivial (Below.refl _ _) (Nat.le_refl _) (by simp) ?_; (case hd => rfl); (case hg => rfl); (case hr => first | (go_simp; done) | (go_simp; rfl)); (case hp => exact (Reps.none _ _)); intro v8 w3 ho hb hg_ hnew_; clear hg_ hnew_; obtain ⟨A8, c8, e8⟩ := Kd.S_slice ho; subst e8; rw [show (([] : List (List Int)).length) = 0 from rfl] at ho; have HS := Aside0.mk (Kd.S_lower ho (below_size HB.out)); have n_ := Aside0.mk (blk_below HX2.out hb); clear HX2; have HX2 := n_; clear n_; have n_ := Aside0.mk (blk_below HX3.out hb); clear HX3; have HX3 := n_; clear n_; have n_ := Aside0.mk (below_step HB.out hb); clear HB; have HB := n_; clear n_; clear hb ho) | ((with_reducible refine gate_dst (N := 4) rfl ?_); refine box_event ?hg (N := 4) ?hd (cs := #[.slice none 0 0]) (t := 42) ?hr ?_; (case hd => rfl); (case hg => rfl); (case hr => first | (go_simp; done) | (go_simp; rfl)); intro g4 hg4 w4 hbox hb; have HX4 := Aside0.mk hbox; have HG4 := Aside0.mk (show w.heap.size ≤ g4 ∧ g2 ≠ g4 ∧ g3 ≠ g4 by have := below_size HB.out; have := blk_lt HX2.out; have := blk_lt HX3.out; omega); have n_ := Aside0.mk (Kd.S_below (Kd.S_elderB HS.out g4 (by omega)) hb); clear HS; have HS := n_; clear n_; have n_ := Aside0.mk (blk_below HX2.out hb); clear HX2; have HX2 := n_; clear n_; have n_ := Aside0.mk (blk_below HX3.out hb); clear HX3; have HX3 := n_; clear n_; have n_ := Aside0.mk (below_step HB.out hb); clear HB; have HB := n_; clear n_; have hz4 : w4.cell? ⟨g4, 0, none⟩ = some (.slice none 0 0) := (blk_cell HX4.out 0).trans rfl; have hfz4 := blk_frozen HX4.out 0; clear hbox hb hg4) | ((with_reducible refine gate_store (t := 42) (p := 4) rfl ?_); refine store_event (t := 42) (p := 4) (v := .tmp 8) (w1 := (w4.setCell ⟨g4, 0, none⟩ (.slice A8 0 c8))) ?hg ?ho ?hn ?hr ?_; (case ho => rfl); (case hg => rfl); (case hn => rfl); (case hr => first | (go_simp; done) | (go_simp; rfl)); intro w5 hw5; have t2_ := blk_far (p := ⟨g4, 0, none⟩) HX2.out HG4.out.2.1 (.slice A8 0 c8); have t3_ := blk_far (p := ⟨g4, 0, none⟩) HX3.out HG4.out.2.2 (.slice A8 0 c8); have t4_ := blk_put HX4.out 0 (.slice A8 0 c8) rfl; have tS_ := Kd.S_far (p := ⟨g4, 0, none⟩) HS.out (fun _ hk => hk.2) (.slice A8 0 c8); have tB_ : Below w.heap.size w (w4.setCell ⟨g4, 0, none⟩ (.slice A8 0 c8)) := below_set HB.out HG4.out.1; rw [← hw5] at t2_ t3_ t4_ tS_ tB_; clear HX2 HX3 HX4 HS HB hz4 hfz4; have HX2 := Aside0.mk t2_; have HX3 := Aside0.mk t3_; have HX4 := Aside0.mk t4_; have HS := Aside0.mk (Kd.S_mono (ok' := fun k => k ≠ g4) tS_ (fun _ hk => hk.2)); have HB := Aside0.mk tB_; have hs2 := (blk_cell HX2.out 2).trans rfl; clear hw5 t2_ t3_ t4_ tS_ tB_))
  (try clear hs2)
  go_loopg [12] ships.length (fun gg s12 wr => ∃ (i : Nat) (Au : Option Addr) (nu cu : Nat), i ≤ ships.length ∧ ships.length - i ≤ gg ∧ s12 = .int .i64 i ∧ Aside0 (wr.heap[g2]? = some (.cells #[.int .i64 (W0 : Int), .int .i64 (H0 : Int), .slice A2 ships.length c2] 28 (0, 0))) ∧ Aside0 (wr.heap[g3]? = some (.cells #[.func (.func g) #[] lb] 76 (0, 0))) ∧ Aside0 (wr.heap[g4]? = some (.cells #[.slice Au nu cu] 42 (0, 0))) ∧ Aside0 (Kd.S (Kd.slice 2 (Kd.int .i64)) 22 wr w.heap.size (fun k => k ≠ g4) (.slice Au nu cu) (rowsE W0 H0 ships i)) ∧ Aside0 (Below w.heap.size w wr))
  case atStart => exact ⟨0, A8, 0, c8, Nat.zero_le _, Nat.le_refl _, rfl, HX2, HX3, HX4, ⟨HS.out⟩, HB⟩
  case round =>
    clear HX2 HX3 HX4 HS HB
    obtain ⟨i, Au, nu, cu, hi, hgi, rfl, HX2, HX3, HX4, HS, HB⟩ := hrel
    by_cases hlt : i < ships.length
    · obtain ⟨ad2, rfl, hx2⟩ := Kd.at_int (HSH.out _ HB.out) (i : Int) (by omega) (by omega)
      rw [Int.toNat_natCast] at hx2
      have q1 := decide_eq_true (show (i : Int) < (ships.length : Int) by omega)
      have q2 := decide_eq_true hlt
      have q3 := eq_true (show (i : Int) < (ships.length : Int) by omega)
      have q4 := eq_true (show (0 : Int) ≤ (i : Int) by omega)
      have q5 := eq_true hlt
      have HLT := Aside0.mk (show i + 1 ≤ ships.length by omega)
      have HJm := Aside0.mk (show ships.length - (i + 1) < gk by omega)
      have HJs := Aside0.mk (show wrap64 ((i : Int) + 1) = ((i + 1 : Nat) : Int) from wrap_one (a := i) (by have := HSz.out; omega))
      obtain ⟨n, hn, hn1, hn5⟩ := inW_nat (HSI.out i hlt)
      obtain ⟨sh, hsh⟩ : ∃ sh, rd ships (i : Int) = sh := ⟨_, rfl⟩
      obtain ⟨P, hP⟩ : ∃ P, placeOf W0 H0 ships i = P := ⟨_, rfl⟩
      have HPr := Aside0.mk (show rowsE W0 H0 ships (i + 1) = rowsE W0 H0 ships i ++ [P] by rw [← hP]; simp [rowsE, List.range_succ])
      have HPf := Aside0.mk (show impl_Sea_placements.f (W0 : Int) (H0 : Int) ships sh = some P by
        rw [← hP, ← hsh, hn]
        unfold impl_Sea_placements.f
        have hW := HW.out
        have inn : ∀ m : Nat, 1 ≤ m → m ≤ 5 → inW (m : Int) 1 5 = true := fun m h1 h5 => by unfold inW; rw [decide_eq_true (by omega), decide_eq_true (by omega)]; rfl
        rw [if_pos ⟨inn _ hW.1.1 hW.1.2, inn _ hW.2.1 hW.2.2, inn _ hn1 hn5⟩]
        unfold placeOf
        rw [hn]
        simp only [Int.toNat_natCast])
      rw [hsh] at hx2
      clear hn hn1 hn5 hsh hP hlt
      go_wp2_with fail
      have n2_ := Aside0.mk (blk_drew HX2.out)
      have n3_ := Aside0.mk (blk_drew HX3.out)
      have n4_ := Aside0.mk (blk_drew HX4.out)
      have nS_ := Aside0.mk (Kd.S_drew HS.out)
      have nb_ := Aside0.mk (below_drew1 HB.out)
      clear HX2 HX3 HX4 HS HB
      refine start_ (n := 7) (S := fun w' => w'.cell? ⟨g4, 0, none⟩ = some (.slice Au nu cu) ∧ w'.cell? ⟨g2, 0, none⟩ = some (.int .i64 (W0 : Int)) ∧ w'.cell? ⟨g2, 1, none⟩ = some (.int .i64 (H0 : Int)) ∧ w'.cell? ⟨g2, 2, none⟩ = some (.slice (some ad2) ships.length c2)) (ds := [6]) #[false, false, false, false, false, false, false] (by kernel_rfl) rfl rfl ⟨(blk_cell n4_.out 0).trans rfl, (blk_cell n2_.out 0).trans rfl, (blk_cell n2_.out 1).trans rfl, (blk_cell n2_.out 2).trans rfl⟩ (fun hHeld => ?_)
      refine with_tabW impl_Sea_eachFleet.tab5 impl_Sea_eachFleet.bits5 (fun HT_ HW_ => ?_)
      generalize wr.drew = w10 at n2_ n3_ n4_ nS_ nb_ hHeld ⊢
      refine take_ (i := 0) (N := some 16) (v := ?_) (a' := ?_) (flg_ 7 1) rfl rfl (take_ofW HT_.out HW_.out (by kernel_rfl)) (fun _ _ _ h => h) (Or.inl ⟨by rfl, ?_⟩) hHeld ?_ ?_
      rotate_left
      · rintro w' ⟨s0_, s1_, s2_, s3_⟩
        go_simp
        with_reducible rfl
      rotate_left
      · simp only [Act.put, sz_, s0_, s1_, i64_w, i32_w]
        rfl
      refine take_ (i := 1) (N := some 17) (v := ?_) (a' := ?_) (flg_ 7 3) rfl rfl (take_ofW HT_.out HW_.out (by kernel_rfl)) (fun _ _ _ h => h) (Or.inl ⟨by rfl, ?_⟩) hHeld ?_ ?_
      rotate_left
      · rintro w' ⟨s0_, s1_, s2_, s3_⟩
        go_simp
        with_reducible rfl
      rotate_left
      · simp only [Act.put, sz_, s0_, s1_, i64_w, i32_w]
        rfl
      refine pure_ (i := 2) (N := some 18) (v := ?_) (a' := ?_) (flg_ 7 7) rfl rfl (any_of HT_.out (by kernel_rfl)) (fun _ _ _ h => h) (Or.inl ⟨by rfl, ?_⟩) ?_ ?_
      rotate_left
      · intro w'
        go_simp
        with_reducible rfl
      rotate_left
      · simp only [Act.put, sz_, s0_, s1_, i64_w, i32_w]
        rfl
      refine one_ (i := 3) (N := some 19) (flg_ 7 15) rfl rfl (one_of HT_.out (by kernel_rfl)) (by decide) (fun K hK => ?_)
      refine goes_ Try.func61 (by kernel_rfl) rfl #[.agg #[.int .i64 (W0 : Int), .int .i64 (H0 : Int), .slice (some ad2) ships.length c2], .int .i64 sh] (by rfl) rfl rfl (by (try simp only [List.map_toArray, List.map_cons, List.map_nil]); first | done | rfl) ?_
      refine (impl_Sea_placements.calls (W0 : Int) (H0 : Int) (some ad2) c2 ships sh P w10 (HSH.out w10 nb_.out) HC2.out HPf.out).mono ?_
      rintro e w11 ⟨v19, rfl, ho, hb⟩
      refine ⟨_, rfl, ?_⟩
      obtain ⟨A19, c19, e19⟩ := Kd.R_slice ho
      subst e19
      have mP_ := Aside0.mk (Kd.R_lower ho (below_size nb_.out))
      have mS_ := Aside0.mk (Kd.S_elder' nS_.out (Kd.R_base ho) hb)
      have m2_ := Aside0.mk (blk_below n2_.out hb)
      have m3_ := Aside0.mk (blk_below n3_.out hb)
      have m4_ := Aside0.mk (blk_below n4_.out hb)
      have mb_ := Aside0.mk (below_step nb_.out hb)
      have mN_ := Aside0.mk (show ∀ k, some k = (Value.slice A19 P.length c19).ownBlock → g4 < k by intro k hk; have h1 := Kd.R_base ho k hk.symm; have := blk_lt n4_.out; omega)
      clear ho hb n2_ n3_ n4_ nS_ nb_
      refine hK.out _ _ ⟨(blk_cell m4_.out 0).trans rfl, (blk_cell m2_.out 0).trans rfl, (blk_cell m2_.out 1).trans rfl, (blk_cell m2_.out 2).trans rfl⟩ (fun hHeld => ?_)
      clear hK K
      refine norm_ (a' := ?_) ?_ ?_
      rotate_left
      · show Act.put _ (some 19) _ = _
        simp only [Act.put, sz_, s0_, s1_, i64_w, i32_w]
        rfl
      refine one_ (i := 4) (N := some 20) (flg_ 7 31) rfl rfl (one_of HT_.out (by kernel_rfl)) (by decide) (fun K hK => ?_)
      refine value_ (w1 := w11.alloc (.cells #[.slice A19 P.length c19] 22 (0, 0))) (v := .slice (some ⟨w11.heap.size, 0, none⟩) 1 1) (by rfl) rfl ?_ ?_
      · go_simp
        (try rfl)
      have k2_ := Aside0.mk (blk_alloc m2_.out (.cells #[.slice A19 P.length c19] 22 (0, 0)))
      have k4_ := Aside0.mk (blk_alloc m4_.out (.cells #[.slice A19 P.length c19] 22 (0, 0)))
      refine hK.out _ _ ⟨(blk_cell k4_.out 0).trans rfl, (blk_cell k2_.out 0).trans rfl, (blk_cell k2_.out 1).trans rfl, (blk_cell k2_.out 2).trans rfl⟩ (fun hHeld => ?_)
      clear hK K
      refine norm_ (a' := ?_) ?_ ?_
      rotate_left
      · show Act.put _ (some 20) _ = _
        simp only [Act.put, sz_, s0_, s1_, i64_w, i32_w]
        rfl
      refine one_ (i := 5) (N := some 21) (flg_ 7 63) rfl rfl (one_of HT_.out (by kernel_rfl)) (by decide) (fun K hK => ?_)
      refine Kd.S_append_step (Kd.slice 2 (Kd.int .i64)) (w0 := w) w.heap.size (by rfl) (.tmp 16) (.tmp 20) 42 22 (.slice none 0 0) 24 rfl Try.underlying42 info22 rfl (by decide) (by omega) (.slice Au nu cu) (rowsE W0 H0 ships i) P [.slice A19 P.length c19] (fun k => k ≠ g4) (fun k_ => some k_ = (.slice A19 P.length c19 : Value).ownBlock) (by rfl) (by rfl) ?aP ?aQ ?aF ?aO mb_.out (below_size mb_.out) ?aL ?_
      · exact Kd.M_row (Kd.R_mono (Kd.R_tight rfl mP_.out) (fun _ h_ => h_))
      · exact fun k_ e_ => ⟨fun h_ => by have := mN_.out k_ e_; omega, ((Kd.R_apart' mP_.out (Kd.S_typed mS_.out) (by decide)).1 k_ e_.symm).2⟩
      · intro k_ hk_ e_
        have := blk_lt m4_.out
        omega
      · exact Kd.S_mono mS_.out (fun k hk => ⟨hk.1, fun e_ => hk.2 e_⟩)
      · rw [rowsE_len]
        have := HLT.out
        have := HSz.out
        omega
      intro v21 w12 ho hb hg hat
      obtain ⟨A21, c21, e21⟩ := Kd.S_slice ho
      subst e21
      have hne_ : ∀ {g : Nat} {cs : Array Value} {t : Nat}, w11.heap[g]? = some (.cells cs t (0, 0)) → 22 ≠ t → w12.heap[g]? = some (.cells cs t (0, 0)) := fun hb_ ht_ => blk_grown hb_ hg (Kd.S_ne mS_.out hb_ ht_)
      clear k4_ k2_
      have k2_ := Aside0.mk (hne_ m2_.out (by decide))
      have k3_ := Aside0.mk (hne_ m3_.out (by decide))
      have k4_ := Aside0.mk (hne_ m4_.out (by decide))
      have kS_ := Aside0.mk ho
      have kb_ := Aside0.mk hb
      clear ho hb hg hat hne_ m2_ m3_ m4_ mS_ mP_ mb_ mN_
      refine hK.out _ _ ⟨(blk_cell k4_.out 0).trans rfl, (blk_cell k2_.out 0).trans rfl, (blk_cell k2_.out 1).trans rfl, (blk_cell k2_.out 2).trans rfl⟩ (fun hHeld => ?_)
      clear hK K
      refine norm_ (a' := ?_) ?_ ?_
      rotate_left
      · show Act.put _ (some 21) _ = _
        simp only [Act.put, sz_, s0_, s1_, i64_w, i32_w]
        rfl
      refine last_ (i := 6) (N := none) (flg_ 7 127) rfl rfl (one_of HT_.out (by kernel_rfl)) (by decide) (fun K hK => ?_)
      have hfR := blk_frozen k4_.out 0
      have hcR := (blk_cell k4_.out 0).trans rfl
      refine skip_ (w1 := w12.setCell ⟨g4, 0, none⟩ (.slice A21 (rowsE W0 H0 ships i ++ [P]).length c21)) (by rfl) rfl ?_ ?_
      · go_simp
        (try rfl)
      refine hK.out _ _ ?_
      clear hK K hfR hcR hHeld
      have HX2 := Aside0.mk (blk_far (p := ⟨g4, 0, none⟩) k2_.out HG4.out.2.1 (.slice A21 (rowsE W0 H0 ships i ++ [P]).length c21))
      have HX3 := Aside0.mk (blk_far (p := ⟨g4, 0, none⟩) k3_.out HG4.out.2.2 (.slice A21 (rowsE W0 H0 ships i ++ [P]).length c21))
      have HX4 := Aside0.mk (blk_put k4_.out 0 (.slice A21 (rowsE W0 H0 ships i ++ [P]).length c21) rfl)
      have HS := Aside0.mk (Kd.S_far (p := ⟨g4, 0, none⟩) kS_.out (fun _ hk => hk) (.slice A21 (rowsE W0 H0 ships i ++ [P]).length c21))
      have HB := Aside0.mk (below_set kb_.out HG4.out.1 : Below w.heap.size w (w12.setCell ⟨g4, 0, none⟩ (.slice A21 (rowsE W0 H0 ships i ++ [P]).length c21)))
      clear k2_ k3_ k4_ kS_ kb_
      generalize w12.setCell ⟨g4, 0, none⟩ (.slice A21 (rowsE W0 H0 ships i ++ [P]).length c21) = w13 at HX2 HX3 HX4 HS HB ⊢
      refine done_ (done_of HT_.out (by kernel_rfl)) ?_
      go_wp2_with fail
      go_roundg (ships.length - (i + 1))
      case measure => exact HJm.out
      case rel => exact ⟨i + 1, A21, _, c21, HLT.out, Nat.le_refl _, (by first | rfl | exact congrArg (Value.int .i64) HJs.out), HX2, HX3, HX4, ⟨by rw [show rowsE W0 H0 ships (i + 1) = rowsE W0 H0 ships i ++ [P] from HPr.out]; exact HS.out⟩, HB⟩
    · have hie : i = ships.length := by omega
      subst hie
      have q1 := decide_eq_false (show ¬ (ships.length : Int) < (ships.length : Int) by omega)
      go_wp2_with (first | ((with_reducible refine gate_dst (N := 7) rfl ?_); refine box_event ?hg (N := 7) ?hd (cs := #[.nilFunc]) (t := 76) ?hr ?_; (case hd => rfl); (case hg => rfl); (case hr => first | (go_simp; done) | (go_simp; rfl)); intro g7 hg7 w6 hbox hb; have HX7 := Aside0.mk hbox; have HG7 := Aside0.mk (show w.heap.size ≤ g7 ∧ g2 ≠ g7 ∧ g3 ≠ g7 ∧ g4 ≠ g7 by have := below_size HB.out; have := blk_lt HX2.out; have := blk_lt HX3.out; have := blk_lt HX4.out; omega); have n_ := Aside0.mk (Kd.S_below (Kd.S_elderB HS.out g7 (by omega)) hb); clear HS; have HS := n_; clear n_; have n_ := Aside0.mk (blk_below HX2.out hb); clear HX2; have HX2 := n_; clear n_; have n_ := Aside0.mk (blk_below HX3.out hb); clear HX3; have HX3 := n_; clear n_; have n_ := Aside0.mk (blk_below HX4.out hb); clear HX4; have HX4 := n_; clear n_; have n_ := Aside0.mk (below_step HB.out hb); clear HB; have HB := n_; clear n_; have hz7 : w6.cell? ⟨g7, 0, none⟩ = some .nilFunc := (blk_cell HX7.out 0).trans rfl; have hfz7 := blk_frozen HX7.out 0; clear hbox hb hg7) | ((with_reducible refine gate_store (t := 76) (p := 7) rfl ?_); refine store_event (t := 76) (p := 7) (v := .tmp 23) (w1 := (w6.setCell ⟨g7, 0, none⟩ (.func (.func 105) #[] #[.pointer (some ⟨g2, 0, none⟩), .pointer (some ⟨g3, 0, none⟩), .pointer (some ⟨g4, 0, none⟩), .pointer (some ⟨g7, 0, none⟩)]))) ?hg ?ho ?hn ?hr ?_; (case ho => rfl); (case hg => rfl); (case hn => rfl); (case hr => first | (go_simp; done) | (go_simp; rfl)); intro w7 hw7; have t2_ := blk_far (p := ⟨g7, 0, none⟩) HX2.out HG7.out.2.1 (.func (.func 105) #[] #[.pointer (some ⟨g2, 0, none⟩), .pointer (some ⟨g3, 0, none⟩), .pointer (some ⟨g4, 0, none⟩), .pointer (some ⟨g7, 0, none⟩)]); have t3_ := blk_far (p := ⟨g7, 0, none⟩) HX3.out HG7.out.2.2.1 (.func (.func 105) #[] #[.pointer (some ⟨g2, 0, none⟩), .pointer (some ⟨g3, 0, none⟩), .pointer (some ⟨g4, 0, none⟩), .pointer (some ⟨g7, 0, none⟩)]); have t4_ := blk_far (p := ⟨g7, 0, none⟩) HX4.out HG7.out.2.2.2 (.func (.func 105) #[] #[.pointer (some ⟨g2, 0, none⟩), .pointer (some ⟨g3, 0, none⟩), .pointer (some ⟨g4, 0, none⟩), .pointer (some ⟨g7, 0, none⟩)]); have t7_ := blk_put HX7.out 0 (.func (.func 105) #[] #[.pointer (some ⟨g2, 0, none⟩), .pointer (some ⟨g3, 0, none⟩), .pointer (some ⟨g4, 0, none⟩), .pointer (some ⟨g7, 0, none⟩)]) rfl; have tS_ := Kd.S_far (p := ⟨g7, 0, none⟩) HS.out (fun _ hk => hk.2) (.func (.func 105) #[] #[.pointer (some ⟨g2, 0, none⟩), .pointer (some ⟨g3, 0, none⟩), .pointer (some ⟨g4, 0, none⟩), .pointer (some ⟨g7, 0, none⟩)]); have tB_ : Below w.heap.size w (w6.setCell ⟨g7, 0, none⟩ (.func (.func 105) #[] #[.pointer (some ⟨g2, 0, none⟩), .pointer (some ⟨g3, 0, none⟩), .pointer (some ⟨g4, 0, none⟩), .pointer (some ⟨g7, 0, none⟩)])) := below_set HB.out HG7.out.1; rw [← hw7] at t2_ t3_ t4_ t7_ tS_ tB_; clear HX2 HX3 HX4 HX7 HS HB hz7 hfz7; have HX2 := Aside0.mk t2_; have HX3 := Aside0.mk t3_; have HX4 := Aside0.mk t4_; have HX7 := Aside0.mk t7_; have HS := Aside0.mk tS_; have HB := Aside0.mk tB_; have hf7 := (blk_cell HX7.out 0).trans rfl; clear hw7 t2_ t3_ t4_ t7_ tS_ tB_) | (go_at_fn 105; refine (each_find W0 H0 ships A2 c2 g lb g2 g3 g4 g7 Au nu cu I b HEG.out HOK.out HSz.out HC2.out HPl.out w w7 HBw.out M0 HI.out HB.out HX2.out HX3.out HX4.out HX7.out ⟨HG2.out, HG3.out.1, HG4.out.1, HG7.out.1⟩ HS.out HCl.out).mono ?_; rintro e w8 ⟨rfl, M1, hi, hf⟩; have HI1 := Aside0.mk hi; have HF1 := Aside0.mk hf; clear hi hf))
      go_end0
      exact ⟨rfl, M1, HI1.out, HF1.out⟩
-- The codes of a sea, a fleet and no cells.
theorem first_one (b : Bool) : Ev (fun k => impl_first.f k [⟨b, 2⟩]) (if b = true then 0 else 2) := by
  refine ⟨4, fun k hk => ?_⟩
  obtain ⟨k', rfl⟩ : ∃ k', k = k' + 4 := ⟨k - 4, by omega⟩
  have w1 : wrap64 1 = 1 := by unfold wrap64; omega
  have r0 : ∀ u : S70, rd_T70 [u] 0 = u := fun _ => rfl
  cases b <;> simp [impl_first.f, impl_first.l0, w1, r0]
theorem sea_ships {w h : Int} {l : List Int} (hs : seaV w h l = true) : ∀ j : Nat, j < l.length → inW (rd l (j : Int)) 1 5 = true := by
  have hsh : shipsFrom l 0 l.length = true := by
    unfold seaV at hs
    simp only [Bool.and_eq_true] at hs
    exact hs.2
  exact fun j hj => ships_in l.length 0 (by omega) hsh j (Nat.zero_le _) hj
/-! ### impl_CountFleets: function 28 -/
-- EXTERNAL: by hand
-- impl_IsSea impl_Sea_eachFleet
-- EachOk seaV_nat sea_ships
def fleetsOf (w h : Int) (l : List Int) : List (List Int) := fleetsFrom w.toNat h.toNat l l.length []
theorem flat_le {α β : Type} (F : α → List β) (n : Nat) : ∀ P : List α, (∀ x ∈ P, (F x).length ≤ n) → (P.flatMap F).length ≤ P.length * n
  | [], _ => by simp
  | x :: P, h => by
    rw [List.flatMap_cons, List.length_append, List.length_cons, Nat.succ_mul]
    have h1 := h x (List.mem_cons_self ..)
    have h2 := flat_le F n P (fun y hy => h y (List.mem_cons_of_mem _ hy))
    omega
theorem fleets_len (W0 H0 : Nat) (ships : List Int) (hpl : ∀ j, (placeOf W0 H0 ships j).length ≤ 100) : ∀ (d : Nat) (list : List Int), (fleetsFrom W0 H0 ships d list).length ≤ 100 ^ d
  | 0, _ => by simp [fleetsFrom]
  | d + 1, list => by
    show ((placeOf W0 H0 ships list.length).flatMap _).length ≤ _
    refine Nat.le_trans (flat_le _ (100 ^ d) _ (fun x _ => ?_)) ?_
    · split
      · exact fleets_len W0 H0 ships hpl d _
      · simp
    · rw [Nat.pow_succ, Nat.mul_comm]
      exact Nat.mul_le_mul_left _ (hpl _)
theorem placeOf_len {W0 H0 : Nat} (hw : W0 ≤ 5) (hh : H0 ≤ 5) (ships : List Int) (j : Nat) : (placeOf W0 H0 ships j).length ≤ 100 := placesOf_len hw hh
/-! ### impl_whole: function 75 -/
def impl_whole.l0 : Nat → Int → List Int → Int → Int → Option (Int)
 | 0, _, _, _, _ => none
 | k + 1, x3, x6, x7, x8 => if x8 < x7 then (if 0 ≤ x8 then (if x8 < (x6.length : Int) then (impl_whole.l0 k (Go.bits .or .i64 x3 (rd x6 x8)) x6 x7 (wrap64 (x8 + 1))) else (none)) else (none)) else (some x3)
def impl_whole.f (k : Nat) (l0 : List Int) : Option (Int) := impl_whole.l0 k 0 l0 (l0.length : Int) 0
set_option maxHeartbeats 8000000 in
set_option maxRecDepth 100000 in
theorem impl_whole.calls (k : Nat) (A0 : Option Addr) (c0 : Nat) (l0 : List Int) (r : Int) (w : World) (hr0 : Kd.C (Kd.int .i64) w A0 l0.length l0) (hc0 : l0.length ≤ c0) (h : impl_whole.f k l0 = some r) :
  Calls Try.prog 75 #[.slice A0 l0.length c0] w fun e w' => e = .returned (.int .i64 r) ∧ Drawn0 w w' := by
 have HR0 := Aside0.mk hr0
 have HC0 := Aside0.mk hc0
 clear hr0 hc0
 have H : (impl_whole.l0 k 0 l0 (l0.length : Int) 0) = some r := h
 clear h
 have H' := Aside0.mk H
 clear H
 go_enter Try.func75, Try.ntmps75
 go_wp2
 go_loopg [3, 8] k (fun kq v3 v8 w' => ∃ (x3_1 : Int) (x8_1 : Int), v3 = .int .i64 x3_1 ∧ v8 = .int .i64 x8_1 ∧ Aside0 (impl_whole.l0 kq x3_1 l0 (l0.length : Int) x8_1 = some r) ∧ Aside0 (kq ≤ k) ∧ Drawn0 w w')
 case atStart => exact ⟨(0), (0), (by first | rfl | (simp; done) | (simp [*]; done)), (by first | rfl | (simp; done) | (simp [*]; done)), H', ⟨Nat.le_refl _⟩, by repeat (first | exact Drawn0.refl _ | apply Drawn0.step)⟩
 case round =>
  clear H'
  obtain ⟨x3_1, x8_1, rfl, rfl, HA, HK1, ⟨m1, rfl⟩⟩ := hrel
  cases gk with
  | zero => exact absurd HA.out (by simp [impl_whole.l0])
  | succ k1 =>
   have H := HA.out
   clear HA
   simp only [impl_whole.l0] at H
   by_cases c2 : x8_1 < (l0.length : Int)
   ·rw [if_pos c2] at H
    have c2b0 : decide (x8_1 < (l0.length : Int)) = true := decide_eq_true c2
    clear c2
    by_cases c3 : 0 ≤ x8_1
    ·rw [if_pos c3] at H
     have c3b0 : decide (0 ≤ x8_1) = true := decide_eq_true c3
     clear c3
     by_cases c4 : x8_1 < (l0.length : Int)
     ·rw [if_pos c4] at H
      have c4b0 : decide (x8_1 < (l0.length : Int)) = true := decide_eq_true c4
      clear c4
      have H' := Aside0.mk H
      clear H
      have p541 : 0 ≤ (x8_1 : Int) := oda
      have q541 : x8_1 < (l0.length : Int) := oda
      obtain ⟨ad541, e541, hx541_0⟩ := Kd.at_int HR0.out x8_1 p541 q541
      cases e541
      replace p541 := eq_true p541
      replace q541 := eq_true q541
      go_wp2
      go_roundg k1
      case measure => have := HK1.out; omega
      case rel => exact ⟨(Go.bits .or .i64 x3_1 (rd l0 x8_1)), (wrap64 (x8_1 + 1)), (by first | rfl | (simp; done) | (simp [*]; done)), (by first | rfl | (simp; done) | (simp [*]; done)), H', ⟨by have := HK1.out; omega⟩, by repeat (first | exact Drawn0.refl _ | apply Drawn0.step)⟩
     ·rw [if_neg c4] at H
      exact absurd H (by simp)
    ·rw [if_neg c3] at H
     exact absurd H (by simp)
   ·rw [if_neg c2] at H
    have c2b0 : decide (x8_1 < (l0.length : Int)) = false := decide_eq_false c2
    clear c2
    obtain rfl := Option.some.inj H
    go_wp2
    go_ret
    exact ⟨by first | rfl | (simp; done) | (simp [*]; done), by repeat (first | exact Drawn0.refl _ | apply Drawn0.step)⟩
/-! ### impl_CellsOfFleet: function 35 -/
-- EXTERNAL: by hand
-- impl_chosen impl_Sea_cells impl_fleetCode impl_whole
def bitIn (V c : Int) : Bool := Go.bits .and .i64 (shr .i64 V c) 1 == 1


-- The set of a fleet's cells.
def orAll (l : List Int) : Int := l.foldl (fun a x => Go.bits .or .i64 a x) 0
def orFrom (l : List Int) : Int → Nat → Nat → Int
  | a, _, 0 => a
  | a, i, d + 1 => orFrom l (Go.bits .or .i64 a (rd l (i : Int))) (i + 1) d
theorem orFrom_fold (l : List Int) : ∀ (d i : Nat) (a : Int), i + d = l.length → orFrom l a i d = (l.drop i).foldl (fun a x => Go.bits .or .i64 a x) a
  | 0, i, a, h => by
    rw [List.drop_eq_nil_of_le (by omega)]; rfl
  | d + 1, i, a, h => by
    have hi : i < l.length := by omega
    rw [List.drop_eq_getElem_cons hi, List.foldl_cons, ← orFrom_fold l d (i + 1) _ (by omega), ← rd_get l i hi]
    rfl
theorem orFrom_all (l : List Int) : orFrom l 0 0 l.length = orAll l := by
  rw [orFrom_fold l l.length 0 0 (by omega), List.drop_zero]; rfl
theorem orAll_nat {b : Nat} (hb : b ≤ 25) : ∀ (l : List Int) (a : Nat), a < 2 ^ b → (∀ x ∈ l, ∃ m : Nat, x = (m : Int) ∧ m < 2 ^ b) → ∃ M : Nat, l.foldl (fun a x => Go.bits .or .i64 a x) (a : Int) = (M : Int) ∧ M < 2 ^ b
  | [], a, ha, _ => ⟨a, rfl, ha⟩
  | x :: l, a, ha, h => by
    obtain ⟨m, rfl, hm⟩ := h x (List.mem_cons_self ..)
    have h25 : 2 ^ b ≤ 33554432 := Nat.le_trans (Nat.pow_le_pow_right (by omega) hb) (by simp)
    have e := bits_or_nat a m (Nat.lt_of_lt_of_le ha (Nat.le_trans h25 pow25_le)) (Nat.lt_of_lt_of_le hm (Nat.le_trans h25 pow25_le))
    rw [List.foldl_cons, e]
    exact orAll_nat hb l (a ||| m) (Nat.or_lt_two_pow ha hm) (fun y hy => h y (List.mem_cons_of_mem _ hy))
theorem implWhole_ev (l : List Int) (hl : l.length ≤ 1000) : Ev (fun k => impl_whole.f k l) (orAll l) := by
  unfold impl_whole.f
  rw [← orFrom_all]
  have key : ∀ (d i : Nat) (a : Int), i + d = l.length → Ev (fun k => impl_whole.l0 k a l l.length i) (orFrom l a i d) := by
    intro d
    induction d with
    | zero =>
      intro i a hi
      refine Ev.step (f := fun _ => some a) (fun k => ?_) (Ev.now _)
      simp only [impl_whole.l0]
      rw [if_neg (by omega)]
    | succ d ih =>
      intro i a hi
      have c1 : (i : Int) < (l.length : Int) := by omega
      have c2 : (0 : Int) ≤ (i : Int) := by omega
      have hw := wrap_one (a := i) (by omega)
      refine Ev.step (fun k => ?_) (ih (i + 1) _ (by omega))
      simp only [impl_whole.l0]
      rw [if_pos c1, if_pos c2, if_pos c1, hw]
  exact key l.length 0 0 (by omega)
-- Shares: how many of the fleets have a cell. (for 75)
-- orAll bitIn chosen_iff
def shareAt (done : List (List Int)) (c : Nat) : Int := ((done.filter fun fl => bitIn (orAll fl) (c : Int)).length : Int)
def sharesV (N : Nat) (done : List (List Int)) : List Int := (List.range N).map (shareAt done)
/-- The row while a fleet is added: the cells before j have it. -/
def shareRow (N : Nat) (done : List (List Int)) (fl : List Int) (j : Nat) : List Int := (List.range N).map fun c => if c < j then shareAt (done ++ [fl]) c else shareAt done c
theorem shareAt_bound (done : List (List Int)) (c : Nat) : 0 ≤ shareAt done c ∧ shareAt done c ≤ (done.length : Int) := by
  unfold shareAt
  have := List.length_filter_le (fun fl => bitIn (orAll fl) (c : Int)) done
  omega
theorem shareAt_snoc (done : List (List Int)) (fl : List Int) (c : Nat) : shareAt (done ++ [fl]) c = shareAt done c + if bitIn (orAll fl) (c : Int) = true then 1 else 0 := by
  unfold shareAt
  rw [List.filter_append, List.length_append]
  by_cases h : bitIn (orAll fl) (c : Int) = true
  · rw [if_pos h]; simp [h]
  · rw [if_neg h]; simp [h]
theorem sharesV_len (N : Nat) (done : List (List Int)) : (sharesV N done).length = N := by simp [sharesV]
theorem shareRow_len (N : Nat) (done : List (List Int)) (fl : List Int) (j : Nat) : (shareRow N done fl j).length = N := by simp [shareRow]
theorem shareRow_zero (N : Nat) (done : List (List Int)) (fl : List Int) : shareRow N done fl 0 = sharesV N done := by
  unfold shareRow sharesV
  exact List.map_congr_left (fun c _ => by rw [if_neg (by omega)])
theorem shareRow_all (N : Nat) (done : List (List Int)) (fl : List Int) : shareRow N done fl N = sharesV N (done ++ [fl]) := by
  unfold shareRow sharesV
  exact List.map_congr_left (fun c h => by rw [if_pos (List.mem_range.1 h)])
theorem sharesV_nil (N : Nat) : sharesV N [] = List.replicate N 0 := by
  unfold sharesV
  refine List.ext_getElem (by simp) (fun i h1 h2 => ?_)
  simp [shareAt]
theorem shareRow_rd {N : Nat} (done : List (List Int)) (fl : List Int) {j : Nat} (h : j < N) : rd (shareRow N done fl j) (j : Int) = shareAt done j := by
  rw [rd_get _ _ (by rw [shareRow_len]; exact h)]
  simp [shareRow]
theorem shareRow_set {N : Nat} (done : List (List Int)) (fl : List Int) {j : Nat} (h : j < N) : (shareRow N done fl j).set j (shareAt (done ++ [fl]) j) = shareRow N done fl (j + 1) := by
  refine List.ext_getElem (by simp [shareRow]) (fun i h1 h2 => ?_)
  rw [List.getElem_set]
  by_cases e : j = i
  · subst e
    simp [shareRow]
  · rw [if_neg e]
    simp only [shareRow, List.getElem_map, List.getElem_range]
    by_cases h3 : i < j
    · rw [if_pos h3, if_pos (by omega)]
    · rw [if_neg h3, if_neg (by omega)]
-- (impl.Sea).shares$1, by hand. (for 112)
-- impl_agrees impl_whole
-- Frame Clear EachOk shareRow agFrom orAll
theorem Frame.set {M : Nat → Prop} {W : World} {p : Addr} (v : Value) (h : M p.block) : Frame M M W (W.setCell p v) := ⟨rfl, rfl, rfl, by simp [World.setCell], fun k _ hm => Below.heap_setCell W p v k (fun e => hm (e ▸ h)), fun _ hk => .inl hk⟩
structure ShNe (w00 : World) (g3 ga gb go : Nat) : Prop where
  a3 : g3 ≠ ga
  ab : gb ≠ ga
  ao : ga ≠ go
  o3 : g3 ≠ go
  ob : gb ≠ go
  za : w00.heap.size ≤ ga
  zo : w00.heap.size ≤ go
/-- What the function that adds a fleet holds while it runs. -/
structure ShEnv (w00 : World) (g3 ga gb go co : Nat) (A3 : Option Addr) (c3 : Nat) (T : List S93) (N : Nat) (A : Option Addr) (list : List Int) (cnt : Int) (row : List Int) (W0 W : World) : Prop where
  below : Below w00.heap.size w00 W
  b3 : W.heap[g3]? = some (.cells #[.slice A3 T.length c3] 55 (0, 0))
  bb : W.heap[gb]? = some (.cells #[.slice (some ⟨go, 0, none⟩) N co] 22 (0, 0))
  ba : W.heap[ga]? = some (.cells #[.int .i64 cnt] 2 (0, 0))
  row : Kd.R (Kd.int .i64) 2 W w00.heap.size (fun k => k = go) (.slice (some ⟨go, 0, none⟩) N co) row
  cl : Clear (fun k => k = ga ∨ k = go) W A list
  fr : Frame (fun k => k = ga ∨ k = go) (fun k => k = ga ∨ k = go) W0 W
theorem ShEnv.stay {w00 : World} {g3 ga gb go co : Nat} {A3 : Option Addr} {c3 : Nat} {T : List S93} {N : Nat} {A : Option Addr} {list : List Int} {cnt : Int} {row : List Int} {W0 W W' : World} (h : ShEnv w00 g3 ga gb go co A3 c3 T N A list cnt row W0 W) (hb : Below W.heap.size W W') : ShEnv w00 g3 ga gb go co A3 c3 T N A list cnt row W0 W' :=
  ⟨below_step h.below hb, blk_below h.b3 hb, blk_below h.bb hb, blk_below h.ba hb, Kd.R_below h.row hb, h.cl.frame (Frame.below hb), h.fr.trans (Frame.below hb)⟩
theorem ShEnv.setA {w00 : World} {g3 ga gb go co : Nat} {A3 : Option Addr} {c3 : Nat} {T : List S93} {N : Nat} {A : Option Addr} {list : List Int} {cnt : Int} {row : List Int} {W0 W : World} (h : ShEnv w00 g3 ga gb go co A3 c3 T N A list cnt row W0 W) (hn : ShNe w00 g3 ga gb go) (z : Int) : ShEnv w00 g3 ga gb go co A3 c3 T N A list z row W0 (W.setCell ⟨ga, 0, none⟩ (.int .i64 z)) :=
  have hf := Frame.set (M := fun k => k = ga ∨ k = go) (W := W) (p := ⟨ga, 0, none⟩) (.int .i64 z) (.inl rfl)
  ⟨below_set h.below hn.za, blk_far (p := ⟨ga, 0, none⟩) h.b3 hn.a3 _, blk_far (p := ⟨ga, 0, none⟩) h.bb hn.ab _, blk_put h.ba 0 _ rfl, Kd.R_far (p := ⟨ga, 0, none⟩) h.row (fun k hk => by subst hk; exact fun e => hn.ao e.symm) _, h.cl.frame hf, h.fr.trans hf⟩
theorem ShEnv.setRow {w00 : World} {g3 ga gb go co : Nat} {A3 : Option Addr} {c3 : Nat} {T : List S93} {N : Nat} {A : Option Addr} {list : List Int} {cnt : Int} {row : List Int} {W0 W : World} (h : ShEnv w00 g3 ga gb go co A3 c3 T N A list cnt row W0 W) (hn : ShNe w00 g3 ga gb go) {j : Nat} {z : Int} (_hj : j < N) : ShEnv w00 g3 ga gb go co A3 c3 T N A list cnt (row.set j z) W0 (W.setCell ⟨go, j, none⟩ (.int .i64 z)) := by
  have hf := Frame.set (M := fun k => k = ga ∨ k = go) (W := W) (p := ⟨go, j, none⟩) (.int .i64 z) (.inr rfl)
  have hr := Kd.R_putn h.row (j : Int) z
  rw [Int.toNat_natCast] at hr
  exact ⟨below_set h.below hn.zo, blk_far (p := ⟨go, j, none⟩) h.b3 hn.o3 _, blk_far (p := ⟨go, j, none⟩) h.bb hn.ob _, blk_far (p := ⟨go, j, none⟩) h.ba hn.ao _, hr, h.cl.frame hf, h.fr.trans hf⟩
theorem ShEnv.rowblk {w00 : World} {g3 ga gb go co : Nat} {A3 : Option Addr} {c3 : Nat} {T : List S93} {N : Nat} {A : Option Addr} {list : List Int} {cnt : Int} {row : List Int} {W0 W : World} (h : ShEnv w00 g3 ga gb go co A3 c3 T N A list cnt row W0 W) (hp : 0 < N) : ∃ cells, W.heap[go]? = some (.cells cells 2 (0, 0)) := by
  have e := (Kd.R_reads' h.row).1
  obtain ⟨g, cap, e2, _, _, cells, hc⟩ := Kd.R_form h.row (by omega)
  injection e2 with e3
  injection e3 with e3
  injection e3 with e3
  subst e3
  exact ⟨cells, hc⟩
def impl_Sea_shares_1.T5 : Bool × List (List Nat × List Nat) := (true, [([], []), ([], []), ([0, 1], [0, 1]), ([2], [2]), ([], []), ([4], [4]), ([], []), ([5, 6], [5, 6]), ([7], [7]), ([3, 8], [3, 8]), ([0, 1, 0, 1, 2, 3, 4, 5, 6, 7, 8, 9], [0, 1]), ([10, 9, 5, 0, 1, 2, 3, 4, 5, 6, 7, 8, 9], [9, 10])])
def impl_Sea_shares_1.B5 : List Nat := [0, 0, 3, 7, 0, 16, 0, 112, 240, 511, 1023, 2047]
theorem impl_Sea_shares_1.tab5 : rtab .any (opsOf Try.f112 5) = impl_Sea_shares_1.T5 := by kernel_rfl
theorem impl_Sea_shares_1.bits5 : waitsOk impl_Sea_shares_1.T5.2 impl_Sea_shares_1.B5 = true := by kernel_rfl

set_option maxHeartbeats 8000000 in
set_option maxRecDepth 100000 in
theorem impl_Sea_shares_1.does (w00 : World) (g3 ga gb go co : Nat) (A3 : Option Addr) (c3 : Nat) (T : List S93) (N : Nat) (A : Option Addr) (list : List Int) (c : Nat) (done : List (List Int)) (W : World) (ka kw : Nat) (hne : ShNe w00 g3 ga gb go) (hT : Kd.C k93 w00 A3 T.length T) (hTc : T.length ≤ c3) (hlc : list.length ≤ c) (hN : 0 < N ∧ N ≤ 25) (hd : done.length ≤ 1000000)
    (hag : impl_agrees.f ka list T = some (agFrom list 0 T)) (hwh : impl_whole.f kw list = some (orAll list)) (hbit : ∀ j : Nat, j < N → Go.bits .and .i64 (shr .i64 (orAll list) (j : Int)) 1 = if bitIn (orAll list) (j : Int) = true then 1 else 0) (h : ShEnv w00 g3 ga gb go co A3 c3 T N A list (done.length : Int) (sharesV N done) W W) :
    Calls Try.prog 112 #[.slice A list.length c, .pointer (some ⟨g3, 0, none⟩), .pointer (some ⟨ga, 0, none⟩), .pointer (some ⟨gb, 0, none⟩)] W fun e w' => e = .returned (.tuple #[]) ∧ ShEnv w00 g3 ga gb go co A3 c3 T N A list ((if agFrom list 0 T = true then done ++ [list] else done).length : Int) (sharesV N (if agFrom list 0 T = true then done ++ [list] else done)) W w' := by
  have HNe := Aside0.mk hne
  have HT := Aside0.mk hT
  have HTc := Aside0.mk hTc
  have HLc := Aside0.mk hlc
  have HE := Aside0.mk h
  clear hne hT hTc hlc h
  cases hg0 : agFrom list 0 T with
  | false =>
    rw [hg0] at hag
    rw [if_neg (by simp)]
    have HAg := Aside0.mk hag
    clear hag hwh hbit hg0 hN hd
    have h3_ := (blk_cell HE.out.b3 0).trans rfl
    have ha_ := (blk_cell HE.out.ba 0).trans rfl
    have hb_ := (blk_cell HE.out.bb 0).trans rfl
    go_enter Try.func112, Try.ntmps112
    go_wp2_with (first | (go_at_call 87; refine (impl_agrees.calls ka A c list A3 c3 T _ _ HE.out.cl.1 HLc.out (Kd.C_below HT.out HE.out.below) HTc.out HAg.out).mono ?_; rintro e w1 ⟨rfl, hb⟩; (try clear h3_); (try clear ha_); (try clear hb_); (try clear hfa); have n_ := Aside0.mk (HE.out.stay hb); clear HE hb; have HE := n_; clear n_; have h3_ := (blk_cell HE.out.b3 0).trans rfl; have ha_ := (blk_cell HE.out.ba 0).trans rfl; have hb_ := (blk_cell HE.out.bb 0).trans rfl; have hfa := blk_frozen HE.out.ba 0))
    refine bodyPost_ret (results_none rfl _ _ _) rfl ?_
    exact ⟨rfl, HE.out⟩
  | true =>
    rw [hg0] at hag
    rw [if_pos rfl]
    have HAg := Aside0.mk hag
    obtain ⟨V, hV⟩ : ∃ V, orAll list = V := ⟨_, rfl⟩
    have HVs := Aside0.mk (fun (j : Nat) (_ : j < N) => show shareAt (done ++ [list]) j = shareAt done j + if bitIn V (j : Int) = true then 1 else 0 by rw [shareAt_snoc, hV])
    rw [hV] at hwh hbit
    have HWh := Aside0.mk hwh
    have HBit := Aside0.mk hbit
    have HNp := Aside0.mk hN.1
    have HN25 := Aside0.mk hN.2
    have HD := Aside0.mk hd
    obtain ⟨z, hz⟩ : ∃ z : Int, ((done ++ [list]).length : Int) = z := ⟨_, rfl⟩
    have hw : wrap64 ((done.length : Int) + 1) = z := by rw [← hz, List.length_append, List.length_singleton]; unfold wrap64; omega
    rw [hz]
    clear hag hwh hbit hg0 hV hN hd hz
    have h3_ := (blk_cell HE.out.b3 0).trans rfl
    have ha_ := (blk_cell HE.out.ba 0).trans rfl
    have hb_ := (blk_cell HE.out.bb 0).trans rfl
    go_enter Try.func112, Try.ntmps112
    go_wp2_with (first | (go_at_call 87; refine (impl_agrees.calls ka A c list A3 c3 T _ _ HE.out.cl.1 HLc.out (Kd.C_below HT.out HE.out.below) HTc.out HAg.out).mono ?_; rintro e w1 ⟨rfl, hb⟩; (try clear h3_); (try clear ha_); (try clear hb_); (try clear hfa); have n_ := Aside0.mk (HE.out.stay hb); clear HE hb; have HE := n_; clear n_; have h3_ := (blk_cell HE.out.b3 0).trans rfl; have ha_ := (blk_cell HE.out.ba 0).trans rfl; have hb_ := (blk_cell HE.out.bb 0).trans rfl; have hfa := blk_frozen HE.out.ba 0) | ((with_reducible refine gate_store (t := 2) (p := 2) rfl ?_); refine store_event (t := 2) (p := 2) (v := .tmp 11) (w1 := (w1.setCell ⟨ga, 0, none⟩ (.int .i64 z))) ?hg ?ho ?hn ?hr ?_; (case ho => rfl); (case hg => rfl); (case hn => rfl); (case hr => first | (go_simp; done) | (go_simp; rfl)); intro w5 hw5; (try clear h3_); (try clear ha_); (try clear hb_); (try clear hfa); have n_ := HE.out.setA HNe.out z; rw [← hw5] at n_; clear HE hw5; have HE := Aside0.mk n_; clear n_; have h3_ := (blk_cell HE.out.b3 0).trans rfl; have ha_ := (blk_cell HE.out.ba 0).trans rfl; have hb_ := (blk_cell HE.out.bb 0).trans rfl))
    clear hw
    (try clear h3_)
    (try clear ha_)
    (try clear hb_)
    (try clear hfa)
    go_loopg [14] N (fun gg s14 wr => ∃ j : Nat, j ≤ N ∧ N - j ≤ gg ∧ s14 = .int .i64 j ∧ Aside0 (ShEnv w00 g3 ga gb go co A3 c3 T N A list z (shareRow N done list j) W wr))
    case atStart => exact ⟨0, Nat.zero_le _, Nat.le_refl _, rfl, ⟨by rw [shareRow_zero]; exact HE.out⟩⟩
    case round =>
      clear HE
      obtain ⟨j, hj, hgj, rfl, HE⟩ := hrel
      by_cases hlt : j < N
      · obtain ⟨adj, eqj, hxj⟩ := Kd.at_int (Kd.R_reads' HE.out.row).2.2 (j : Int) (by omega) (by rw [shareRow_len]; omega)
        injection eqj with eqj
        subst eqj
        rw [Int.toNat_natCast, shareRow_rd _ _ hlt, add_at, Nat.zero_add] at hxj
        have hsb := shareAt_bound done j
        have HJm := Aside0.mk (show N - (j + 1) < gk by omega)
        have HJr := Aside0.mk (show j + 1 ≤ N by omega)
        have HJlt := Aside0.mk hlt
        have HJs := Aside0.mk (show wrap64 ((j : Int) + 1) = ((j + 1 : Nat) : Int) from wrap_one (a := j) (by have := HN25.out; omega))
        obtain ⟨sv, hsv⟩ : ∃ sv, shareAt done j = sv := ⟨_, rfl⟩
        have hs2 := HVs.out j hlt
        rw [hsv] at hxj hsb hs2
        have hbt := HBit.out j hlt
        obtain ⟨bt, hbt2⟩ : ∃ bt : Int, (if bitIn V (j : Int) = true then (1 : Int) else 0) = bt := ⟨_, rfl⟩
        rw [hbt2] at hbt hs2
        have hb01 : 0 ≤ bt ∧ bt ≤ 1 := by rw [← hbt2]; split <;> omega
        obtain ⟨sz, hsz⟩ : ∃ sz, shareAt (done ++ [list]) j = sz := ⟨_, rfl⟩
        have hwz : wrap64 (sv + bt) = sz := by rw [← hsz, hs2]; have := HD.out; unfold wrap64; omega
        have hbt3 : Go.bits .and .i64 (V / 2 ^ (min j 64)) 1 = bt := hbt
        have HSv := Aside0.mk (show (shareRow N done list j).set j sz = shareRow N done list (j + 1) by rw [← hsz]; exact shareRow_set done list hlt)
        have q1 := decide_eq_true (show (j : Int) < (N : Int) by omega)
        have q2 := decide_eq_true hlt
        have q3 := eq_true (show (j : Int) < (N : Int) by omega)
        have q4 := eq_true (show (0 : Int) ≤ (j : Int) by omega)
        have q5 := eq_true hlt
        have q6 := eq_false (show ¬ (j : Int) < 0 by omega)
        have q7 := decide_eq_false (show ¬ (j : Int) < 0 by omega)
        clear hsb hs2 hbt2 hb01 hsz hsv hj hgj hlt
        have h3_ := (blk_cell HE.out.b3 0).trans rfl
        have ha_ := (blk_cell HE.out.ba 0).trans rfl
        have hb_ := (blk_cell HE.out.bb 0).trans rfl
        go_wp2_with fail
        refine start_ (n := 12) (S := fun w' => w'.cell? ⟨gb, 0, none⟩ = some (.slice (some ⟨go, 0, none⟩) N co) ∧ w'.cell? ⟨go, j, none⟩ = some (.int .i64 sv)) (ds := [11]) #[false, false, false, false, false, false, false, false, false, false, false, false] (by kernel_rfl) rfl rfl ⟨(blk_cell (blk_drew HE.out.bb) 0).trans rfl, ((below_drew1 (Below.refl wr.heap.size wr)).cell (World.block_lt_of_cell? _ _ hxj)).trans hxj⟩ (fun hHeld => ?_)
        refine with_tabW impl_Sea_shares_1.tab5 impl_Sea_shares_1.bits5 (fun HT_ HW_ => ?_)
        have HEd := Aside0.mk (HE.out.stay (below_drew1 (Below.refl wr.heap.size wr)))
        have hxd := ((below_drew1 (Below.refl wr.heap.size wr)).cell (World.block_lt_of_cell? _ _ hxj)).trans hxj
        clear HE hxj h3_ ha_ hb_
        generalize hq_ : wr.drew = wd_ at HEd hxd hHeld ⊢
        clear hq_
        refine take_ (i := 0) (N := some 17) (v := ?_) (a' := ?_) (flg_ 12 1) rfl rfl (take_ofW HT_.out HW_.out (by kernel_rfl)) (fun _ _ _ h => h) (Or.inl ⟨by rfl, ?_⟩) hHeld ?_ ?_
        rotate_left
        · rintro w' ⟨s0_, s1_⟩
          go_simp
          with_reducible rfl
        rotate_left
        · simp only [Act.put, sz_, s0_, s1_, i64_w, i32_w]
          rfl
        refine pure_ (i := 1) (N := some 18) (v := ?_) (a' := ?_) (flg_ 12 3) rfl rfl (any_of HT_.out (by kernel_rfl)) (fun _ _ _ h => h) (Or.inl ⟨by rfl, ?_⟩) ?_ ?_
        rotate_left
        · intro w'
          go_simp
          with_reducible rfl
        rotate_left
        · simp only [Act.put, sz_, s0_, s1_, i64_w, i32_w]
          rfl
        refine pure_ (i := 2) (N := some 19) (v := ?_) (a' := ?_) (flg_ 12 7) rfl rfl (any_of HT_.out (by kernel_rfl)) (fun _ _ _ h => h) (Or.inl ⟨by rfl, ?_⟩) ?_ ?_
        rotate_left
        · intro w'
          go_simp
          with_reducible rfl
        rotate_left
        · simp only [Act.put, sz_, s0_, s1_, i64_w, i32_w]
          rfl
        refine take_ (i := 3) (N := some 20) (v := ?_) (a' := ?_) (flg_ 12 15) rfl rfl (take_ofW HT_.out HW_.out (by kernel_rfl)) (fun _ _ _ h => h) (Or.inl ⟨by rfl, ?_⟩) hHeld ?_ ?_
        rotate_left
        · rintro w' ⟨s0_, s1_⟩
          go_simp
          with_reducible rfl
        rotate_left
        · simp only [Act.put, sz_, s0_, s1_, i64_w, i32_w]
          rfl
        refine pure_ (i := 4) (N := some 21) (v := ?_) (a' := ?_) (flg_ 12 31) rfl rfl (any_of HT_.out (by kernel_rfl)) (fun _ _ _ h => h) (Or.inl ⟨by rfl, ?_⟩) ?_ ?_
        rotate_left
        · intro w'
          go_simp
          with_reducible rfl
        rotate_left
        · simp only [Act.put, sz_, s0_, s1_, i64_w, i32_w]
          rfl
        refine pure_ (i := 6) (N := some 23) (v := ?_) (a' := ?_) (flg_ 12 95) rfl rfl (any_of HT_.out (by kernel_rfl)) (fun _ _ _ h => h) (Or.inl ⟨by rfl, ?_⟩) ?_ ?_
        rotate_left
        · intro w'
          go_simp
          with_reducible rfl
        rotate_left
        · simp only [Act.put, sz_, s0_, s1_, i64_w, i32_w]
          rfl
        refine one_ (i := 5) (N := some 22) (flg_ 12 127) rfl rfl (one_of HT_.out (by kernel_rfl)) (by decide) (fun K hK => ?_)
        refine goes_ Try.func75 (by kernel_rfl) rfl #[.slice A list.length c] (by rfl) rfl rfl (by (try simp only [List.map_toArray, List.map_cons, List.map_nil]); first | done | rfl) ?_
        refine (impl_whole.calls kw A c list V wd_ HEd.out.cl.1 HLc.out HWh.out).mono ?_
        rintro e w6 ⟨rfl, hd⟩
        have hb := hd.below
        clear hd
        refine ⟨_, rfl, ?_⟩
        have HE := Aside0.mk (HEd.out.stay hb)
        have hx6 := (hb.cell (World.block_lt_of_cell? _ _ hxd)).trans hxd
        clear HEd hb hxd
        refine hK.out _ _ ⟨(blk_cell HE.out.bb 0).trans rfl, hx6⟩ (fun hHeld => ?_)
        clear hK K
        refine norm_ (a' := ?_) ?_ ?_
        rotate_left
        · show Act.put _ (some 22) _ = _
          simp only [Act.put, sz_, s0_, s1_, i64_w, i32_w]
          rfl
        refine pure_ (i := 7) (N := some 24) (v := ?_) (a' := ?_) (flg_ 12 255) rfl rfl (any_of HT_.out (by kernel_rfl)) (fun _ _ _ h => h) (Or.inl ⟨by rfl, ?_⟩) ?_ ?_
        rotate_left
        · intro w'
          go_simp
          with_reducible rfl
        rotate_left
        · simp only [Act.put, sz_, s0_, s1_, i64_w, i32_w]
          rfl
        refine pure_ (i := 8) (N := some 25) (v := ?_) (a' := ?_) (flg_ 12 511) rfl rfl (any_of HT_.out (by kernel_rfl)) (fun _ _ _ h => h) (Or.inl ⟨by rfl, ?_⟩) ?_ ?_
        rotate_left
        · intro w'
          go_simp
          with_reducible rfl
        rotate_left
        · simp only [Act.put, sz_, s0_, s1_, i64_w, i32_w]
          rfl
        refine pure_ (i := 9) (N := some 26) (v := ?_) (a' := ?_) (flg_ 12 1023) rfl rfl (any_of HT_.out (by kernel_rfl)) (fun _ _ _ h => h) (Or.inl ⟨by rfl, ?_⟩) ?_ ?_
        rotate_left
        · intro w'
          go_simp
          with_reducible rfl
        rotate_left
        · simp only [Act.put, sz_, s0_, s1_, i64_w, i32_w]
          rfl
        refine pure_ (i := 10) (N := some 27) (v := ?_) (a' := ?_) (flg_ 12 2047) rfl rfl (any_of HT_.out (by kernel_rfl)) (fun _ _ _ h => h) (Or.inl ⟨by rfl, ?_⟩) ?_ ?_
        rotate_left
        · intro w'
          go_simp
          with_reducible rfl
        rotate_left
        · simp only [Act.put, sz_, s0_, s1_, i64_w, i32_w]
          rfl
        refine last_ (i := 11) (N := none) (flg_ 12 4095) rfl rfl (one_of HT_.out (by kernel_rfl)) (by decide) (fun K hK => ?_)
        obtain ⟨rc_, hrb⟩ := HE.out.rowblk HNp.out
        have hfR := blk_frozen hrb j
        refine skip_ (w1 := w6.setCell ⟨go, j, none⟩ (.int .i64 sz)) (by rfl) rfl ?_ ?_
        · go_simp
          (try rw [hbt3, hwz])
          (try rfl)
        refine hK.out _ _ ?_
        clear hK K hfR hrb hx6 hHeld
        have n_ := HE.out.setRow (z := sz) HNe.out HJlt.out
        rw [HSv.out] at n_
        clear HE
        have HE := Aside0.mk n_
        clear n_
        generalize w6.setCell ⟨go, j, none⟩ (.int .i64 sz) = w7 at HE ⊢
        refine done_ (done_of HT_.out (by kernel_rfl)) ?_
        go_wp2_with fail
        go_roundg (N - (j + 1))
        case measure => exact HJm.out
        case rel => exact ⟨j + 1, HJr.out, Nat.le_refl _, (by first | rfl | exact congrArg (Value.int .i64) HJs.out), HE⟩
      · have hje : j = N := by omega
        subst hje
        have q1 := decide_eq_false (show ¬ (j : Int) < (j : Int) by omega)
        go_wp2_with fail
        go_end0
        exact ⟨rfl, by have := HE.out; rwa [shareRow_all] at this⟩
-- What eachFleet needs of the function that adds a fleet to the shares. (for 112)
-- ShEnv EachOk InPl implAgrees_ev implWhole_ev shareRow placesOf_bound
def agreeing (fls : List (List Int)) (T : List S93) : List (List Int) := fls.filter fun fl => agFrom fl 0 T
theorem agreeing_take (fls : List (List Int)) (T : List S93) {i : Nat} {fl : List Int} (h : fls[i]? = some fl) : agreeing (fls.take (i + 1)) T = if agFrom fl 0 T = true then agreeing (fls.take i) T ++ [fl] else agreeing (fls.take i) T := by
  obtain ⟨hi, he⟩ := List.getElem?_eq_some_iff.1 h
  unfold agreeing
  rw [List.take_succ_eq_append_getElem hi, List.filter_append, he]
  by_cases hb : agFrom fl 0 T = true
  · rw [if_pos hb]; simp [hb]
  · rw [if_neg hb]; simp [hb]
theorem fleets_in {W H : Nat} {ships : List Int} : ∀ (d : Nat) (list : List Int), InPl W H ships list → list.length + d = ships.length → ∀ fl ∈ fleetsFrom W H ships d list, InPl W H ships fl ∧ fl.length = ships.length
  | 0, list, hin, hd, fl, hfl => by
    have e : fl = list := by simpa [fleetsFrom] using hfl
    subst e
    exact ⟨hin, by omega⟩
  | d + 1, list, hin, hd, fl, hfl => by
    unfold fleetsFrom at hfl
    obtain ⟨own, ho, h2⟩ := List.mem_flatMap.1 hfl
    by_cases hg : goesV ships list own = true
    · rw [if_pos hg] at h2
      exact fleets_in d (list ++ [own]) (hin.snoc ho) (by simp; omega) fl h2
    · rw [if_neg hg] at h2
      cases h2
theorem inPl_num {W H : Nat} (hW : 1 ≤ W ∧ W ≤ 5) (hH : H ≤ 5) {ships : List Int} (hin : ∀ j : Nat, j < ships.length → inW (rd ships (j : Int)) 1 5 = true) {fl : List Int} (h : InPl W H ships fl) (hl : fl.length = ships.length) : ∀ x ∈ fl, ∃ m : Nat, x = (m : Int) ∧ m < 2 ^ (W * H) := fun x hx => by
  obtain ⟨j, hj, rfl⟩ := List.mem_iff_getElem.1 hx
  obtain ⟨n, hn, h1, _⟩ := inW_five (hin j (by omega))
  have := h j hj
  unfold placeOf at this
  rw [hn, Int.toNat_natCast] at this
  exact placesOf_bound hW.1 hW.2 hH h1 _ this
theorem cells_le {W H : Nat} (hW : W ≤ 5) (hH : H ≤ 5) : W * H ≤ 25 := Nat.mul_le_mul hW hH
theorem orAll_in {W H : Nat} (hW : 1 ≤ W ∧ W ≤ 5) (hH : H ≤ 5) {fl : List Int} (h : ∀ x ∈ fl, ∃ m : Nat, x = (m : Int) ∧ m < 2 ^ (W * H)) : ∃ V : Nat, orAll fl = (V : Int) ∧ V < 2 ^ (W * H) := orAll_nat (cells_le hW.2 hH) fl 0 (Nat.two_pow_pos _) h
theorem bit_add {V b c : Nat} (hV : V < 2 ^ b) (hb : b ≤ 25) (hc : c ≤ 64) : Go.bits .and .i64 (shr .i64 (V : Int) (c : Int)) 1 = if bitIn (V : Int) (c : Int) = true then 1 else 0 := by
  have h25 : 2 ^ b ≤ 33554432 := Nat.le_trans (Nat.pow_le_pow_right (by omega) hb) (by simp)
  unfold bitIn
  rw [bit_nat V c (Nat.lt_of_lt_of_le hV (Nat.le_trans h25 pow25_le)) hc]
  by_cases h : V.testBit c = true <;> simp [h]
/-- What lies there behind i fleets. -/
structure ShI (w00 : World) (g3 ga gb go co : Nat) (A3 : Option Addr) (c3 : Nat) (T : List S93) (N : Nat) (done : List (List Int)) (W : World) : Prop where
  below : Below w00.heap.size w00 W
  b3 : W.heap[g3]? = some (.cells #[.slice A3 T.length c3] 55 (0, 0))
  bb : W.heap[gb]? = some (.cells #[.slice (some ⟨go, 0, none⟩) N co] 22 (0, 0))
  ba : W.heap[ga]? = some (.cells #[.int .i64 (done.length : Int)] 2 (0, 0))
  row : Kd.R (Kd.int .i64) 2 W w00.heap.size (fun k => k = go) (.slice (some ⟨go, 0, none⟩) N co) (sharesV N done)
def ShareI (w00 : World) (g3 ga gb go co : Nat) (A3 : Option Addr) (c3 : Nat) (T : List S93) (N : Nat) (fleets : List (List Int)) (i : Nat) (M : Nat → Prop) (W : World) : Prop := M = (fun k => k = ga ∨ k = go) ∧ ShI w00 g3 ga gb go co A3 c3 T N (agreeing (fleets.take i) T) W
theorem share_ok {W0 H0 : Nat} (hW : 1 ≤ W0 ∧ W0 ≤ 5) (hH : 1 ≤ H0 ∧ H0 ≤ 5) {ships : List Int} (hs3 : ships.length ≤ 3) (hin : ∀ j : Nat, j < ships.length → inW (rd ships (j : Int)) 1 5 = true) {w00 : World} {g3 ga gb go co : Nat} {A3 : Option Addr} {c3 : Nat} {T : List S93} (hTl : T.length ≤ 1048576) (hTs : SeaCells (T.map fun x => x.f0)) (hne : ShNe w00 g3 ga gb go) (hT : Kd.C k93 w00 A3 T.length T) (hTc : T.length ≤ c3) (hf : (fleetsFrom W0 H0 ships ships.length []).length ≤ 1000000) :
    EachOk 0 112 #[.pointer (some ⟨g3, 0, none⟩), .pointer (some ⟨ga, 0, none⟩), .pointer (some ⟨gb, 0, none⟩)] (fleetsFrom W0 H0 ships ships.length []) (ShareI w00 g3 ga gb go co A3 c3 T (W0 * H0) (fleetsFrom W0 H0 ships ships.length [])) where
  stay := fun i M W W' h hb => ⟨h.1, ⟨below_step h.2.below hb, blk_below h.2.b3 hb, blk_below h.2.bb hb, blk_below h.2.ba hb, Kd.R_below h.2.row hb⟩⟩
  own := fun i M W h k hk => by
    rw [h.1] at hk
    rcases hk with rfl | rfl
    · exact blk_lt h.2.ba
    · exact Kd.R_lt h.2.row _ rfl
  call := fun i M W A c list h hl hcl hlc _ => by
    have hmem : list ∈ fleetsFrom W0 H0 ships ships.length [] := List.mem_of_getElem? hl
    obtain ⟨hpl, hlen⟩ := fleets_in ships.length [] InPl.nil (by simp) list hmem
    have hnum := inPl_num hW hH.2 hin hpl hlen
    have h25 : 2 ^ (W0 * H0) ≤ 33554432 := Nat.le_trans (Nat.pow_le_pow_right (by omega) (cells_le hW.2 hH.2)) (by simp)
    have hN : NumFleet list := fun x hx => by obtain ⟨m, e, hm⟩ := hnum x hx; exact ⟨m, e, Nat.lt_of_lt_of_le hm h25⟩
    obtain ⟨ka, hka⟩ := implAgrees_ev hN (by omega) T hTl hTs
    obtain ⟨kw, hkw⟩ := implWhole_ev list (by omega)
    obtain ⟨V, hV, hV2⟩ := orAll_in hW hH.2 hnum
    obtain ⟨hM, hS⟩ := h
    subst hM
    have hp : 0 < W0 * H0 := Nat.mul_pos (by omega) (by omega)
    have hc25 := cells_le hW.2 hH.2
    have hd : (agreeing ((fleetsFrom W0 H0 ships ships.length []).take i) T).length ≤ 1000000 := by
      unfold agreeing
      refine Nat.le_trans (List.length_filter_le _ _) ?_
      rw [List.length_take]
      omega
    refine (impl_Sea_shares_1.does w00 g3 ga gb go co A3 c3 T (W0 * H0) A list c (agreeing ((fleetsFrom W0 H0 ships ships.length []).take i) T) W ka kw hne hT hTc hlc ⟨hp, hc25⟩ hd (hka ka (Nat.le_refl _)) (hkw kw (Nat.le_refl _)) (fun j hj => by rw [hV]; exact bit_add hV2 hc25 (by omega)) ⟨hS.below, hS.b3, hS.bb, hS.ba, hS.row, hcl, Frame.refl _ _⟩).mono ?_
    rintro e w' ⟨rfl, hE⟩
    rw [← agreeing_take _ T hl] at hE
    exact ⟨rfl, _, ⟨rfl, ⟨hE.below, hE.b3, hE.bb, hE.ba, hE.row⟩⟩, hE.fr.x⟩
/-- What a fleet that agrees adds. -/
structure FleetNum (N : Nat) (fl : List Int) : Prop where
  len : fl.length ≤ 1000
  all : ∃ V : Nat, orAll fl = (V : Int) ∧ V < 2 ^ N

end Go.Proofs.Ytiancdhpdjmacaa.F
