-- written by the session's program xp.py over the kit's print program, and by hand; texts joined by pack.py
import Derived.Test.YthmfpdkemkjpkaaKFnExactHuntFleet5
namespace Go.Proofs.Ythmfpdkemkjpkaa.F
open Go.RowKit Go.Proofs.YthmfpdkemkjpkaaW.PrintWords Go.Proofs.YthmfpdkemkjpkaaW.PrintLast Go.Proofs.YthmfpdkemkjpkaaW.PrintMore
attribute [local go_sem] max2_int min2_int max_two min_two max_three min_three max_four min_four   -- for this text's walks alone
set_option linter.unusedVariables false
set_option linter.unusedSimpArgs false

set_option maxHeartbeats 8000000 in
set_option maxRecDepth 100000 in
theorem spec_l09Go.ends (W0 H0 : Nat) (ships : List Int) (A2 : Option Addr) (c2 : Nat) (A3 : Option Addr) (c3 : Nat) (T : List S45) (used most : Int) (list : List Int) (A : Option Addr) (c : Nat) (okL : Nat → Prop) (ka : Nat) (w : World) (hd : list.length = ships.length) (hF : Kd.F (Kd.int .i64) w okL A list.length list) (hc : list.length ≤ c) (hT : Kd.C k45 w A3 T.length T) (hTc : T.length ≤ c3)
  (hag : spec_l09Agrees.f ka list T = some (agFrom list 0 T)) :
  Calls Try.prog 16 #[.agg #[.int .i64 (W0 : Int), .int .i64 (H0 : Int), .slice A2 ships.length c2], .slice A list.length c, .int .i64 used, .slice A3 T.length c3, .int .i64 most] w fun e w' => ∃ v, e = .returned v ∧ Kd.N (Kd.slice 2 (Kd.int .i64)) 22 w' w.heap.size (fun k => okL k ∨ w.heap.size ≤ k) v (goV W0 H0 ships T 0 list used most) ∧ Below w.heap.size w w' := by
 have HB := Aside0.mk (Below.refl w.heap.size w)
 have HF := Aside0.mk hF
 have HLc := Aside0.mk hc
 have HT := Aside0.mk hT
 have HTc := Aside0.mk hTc
 have HAg := Aside0.mk hag
 have hu28 := Try.underlying28
 have heq : ((list.length : Int) == (ships.length : Int)) = true := beq_iff_eq.mpr (by omega)
 have heqn : (list.length == ships.length) = true := beq_iff_eq.mpr (by omega)
 clear hF hc hT hTc hag hd
 unfold goV
 cases hb0 : agFrom list 0 T with
 | true =>
  rw [hb0] at HAg
  rw [if_pos rfl]
  clear hb0
  go_enter Try.func16, Try.ntmps16
  go_wp2_with (first | ((with_reducible refine gate_dst (N := 5) rfl ?_); refine box_event ?hg (N := 5) ?hd (cs := #[.int .i64 (W0 : Int), .int .i64 (H0 : Int), .slice A2 ships.length c2]) (t := 28) ?hr ?_; (case hd => rfl); (case hg => rfl); (case hr => first | (go_simp; done) | (go_simp; rfl)); intro g5 hg5 w1 hbox hb; have HX := Aside0.mk hbox; have HG5 := Aside0.mk (show w.heap.size ≤ g5 by omega); have n1_ := Aside0.mk (Kd.F_below HF.out hb); have n2_ := Aside0.mk (bp_ HB.out hb); clear hbox hb hg5 HB HF; have HB := n2_; have HF := n1_; clear n1_ n2_; have hs0 := (bc_ HX.out 0).trans rfl; have hs1 := (bc_ HX.out 1).trans rfl; have hs2 := (bc_ HX.out 2).trans rfl) | (go_at_call 27; refine (spec_l09Agrees.calls ka A c list A3 c3 T _ _ (Kd.F_now HF.out) HLc.out (Kd.C_below HT.out HB.out) HTc.out HAg.out).mono ?_; rintro e w2 ⟨rfl, hd⟩; have hb := hd.below; clear hd; (try clear hs0); (try clear hs1); (try clear hs2); have n0_ := Aside0.mk (bb_ HX.out hb); have n1_ := Aside0.mk (Kd.F_below HF.out hb); have n2_ := Aside0.mk (bp_ HB.out hb); clear hb HX HB HF; have HX := n0_; have HB := n2_; have HF := n1_; clear n0_ n1_ n2_; have hs0 := (bc_ HX.out 0).trans rfl; have hs1 := (bc_ HX.out 1).trans rfl; have hs2 := (bc_ HX.out 2).trans rfl) | ((with_reducible refine gate_dst (N := 26) rfl ?_); refine Kd.N_lit (Kd.slice 2 (Kd.int .i64)) (w0 := w) w.heap.size 22 ?hg (N' := 26) ?hd (xs := ([list] : List (List Int))) (inner := [.slice A list.length c]) (ok := fun k => okL k ∨ w.heap.size ≤ k) (okp := okL) ?hr ?hp (fun _ hk => .inl hk) (.inr (bz_ HB.out)) HB.out (bz_ HB.out) (by simp) ?_; (case hd => rfl); (case hg => rfl); (case hr => first | (go_simp; done) | (go_simp; rfl)); (case hp => exact Reps.one (Kd.FK_slice_mk HLc.out HF.out) (Reps.none _ _)); intro v26 w3 ho hb hg_ hnew_; clear hg_ hnew_; have HN := Aside0.mk ho; have HB3 := Aside0.mk hb; clear ho hb))
  go_ret
  exact ⟨_, rfl, HN.out, HB3.out⟩
 | false =>
  rw [hb0] at HAg
  rw [if_neg (by simp)]
  clear hb0
  go_enter Try.func16, Try.ntmps16
  go_wp2_with (first | ((with_reducible refine gate_dst (N := 5) rfl ?_); refine box_event ?hg (N := 5) ?hd (cs := #[.int .i64 (W0 : Int), .int .i64 (H0 : Int), .slice A2 ships.length c2]) (t := 28) ?hr ?_; (case hd => rfl); (case hg => rfl); (case hr => first | (go_simp; done) | (go_simp; rfl)); intro g5 hg5 w1 hbox hb; have HX := Aside0.mk hbox; have HG5 := Aside0.mk (show w.heap.size ≤ g5 by omega); have n1_ := Aside0.mk (Kd.F_below HF.out hb); have n2_ := Aside0.mk (bp_ HB.out hb); clear hbox hb hg5 HB HF; have HB := n2_; have HF := n1_; clear n1_ n2_; have hs0 := (bc_ HX.out 0).trans rfl; have hs1 := (bc_ HX.out 1).trans rfl; have hs2 := (bc_ HX.out 2).trans rfl) | (go_at_call 27; refine (spec_l09Agrees.calls ka A c list A3 c3 T _ _ (Kd.F_now HF.out) HLc.out (Kd.C_below HT.out HB.out) HTc.out HAg.out).mono ?_; rintro e w2 ⟨rfl, hd⟩; have hb := hd.below; clear hd; (try clear hs0); (try clear hs1); (try clear hs2); have n0_ := Aside0.mk (bb_ HX.out hb); have n1_ := Aside0.mk (Kd.F_below HF.out hb); have n2_ := Aside0.mk (bp_ HB.out hb); clear hb HX HB HF; have HX := n0_; have HB := n2_; have HF := n1_; clear n0_ n1_ n2_; have hs0 := (bc_ HX.out 0).trans rfl; have hs1 := (bc_ HX.out 1).trans rfl; have hs2 := (bc_ HX.out 2).trans rfl) | ((with_reducible refine gate_dst (N := 27) rfl ?_); refine Kd.N_lit (Kd.slice 2 (Kd.int .i64)) (w0 := w) w.heap.size 22 ?hg (N' := 27) ?hd (xs := ([] : List (List Int))) (inner := []) (ok := fun k => okL k ∨ w.heap.size ≤ k) (okp := okL) ?hr ?hp (fun _ hk => .inl hk) (.inr (bz_ HB.out)) HB.out (bz_ HB.out) (by simp) ?_; (case hd => rfl); (case hg => rfl); (case hr => first | (go_simp; done) | (go_simp; rfl)); (case hp => exact Reps.none _ _); intro v26 w3 ho hb hg_ hnew_; clear hg_ hnew_; have HN := Aside0.mk ho; have HB3 := Aside0.mk hb; clear ho hb))
  go_ret
  exact ⟨_, rfl, HN.out, HB3.out⟩

def spec_l09Go.T6 : Bool × List (List Nat × List Nat) := (true, [([], []), ([], []), ([1], [1]), ([], []), ([2, 3], [2, 3]), ([4], [4]), ([0, 5], [0, 5]), ([6, 6, 0, 1, 2, 3, 4, 5, 6], [6])])
def spec_l09Go.B6 : List Nat := [0, 0, 2, 0, 14, 30, 63, 127]
theorem spec_l09Go.tab6 : rtab .any (opsOf Try.f16 6) = spec_l09Go.T6 := by kernel_rfl
theorem spec_l09Go.bits6 : waitsOk spec_l09Go.T6.2 spec_l09Go.B6 = true := by kernel_rfl
def spec_l09Go.T14 : Bool × List (List Nat × List Nat) := (true, [([], []), ([], []), ([], []), ([2], [2]), ([], []), ([], []), ([4, 5], [4, 5]), ([6], [6]), ([7], [7]), ([3, 8, 3], [3, 8]), ([], []), ([], []), ([], []), ([11, 12], [11, 12]), ([13], [13]), ([10, 14], [10, 14]), ([], []), ([], []), ([1, 9, 15, 16, 17, 9], [1, 9, 15, 16, 17]), ([0, 18, 18], [0, 18]), ([19, 19, 0, 1, 2, 3, 4, 5, 6, 7, 8, 9, 10, 11, 12, 13, 14, 15, 16, 17, 18, 19], [0, 19])])
def spec_l09Go.B14 : List Nat := [0, 0, 0, 4, 0, 0, 48, 112, 240, 508, 0, 0, 0, 6144, 14336, 31744, 0, 0, 262142, 524287, 1048575]
theorem spec_l09Go.tab14 : rtab .any (opsOf Try.f16 14) = spec_l09Go.T14 := by kernel_rfl
theorem spec_l09Go.bits14 : waitsOk spec_l09Go.T14.2 spec_l09Go.B14 = true := by kernel_rfl

set_option maxHeartbeats 16000000 in
set_option maxRecDepth 100000 in
theorem spec_l09Go.does (W0 H0 : Nat) (ships : List Int) (A2 : Option Addr) (c2 : Nat) (A3 : Option Addr) (c3 : Nat) (T : List S45) (hw : W0 ≤ 5) (hh : H0 ≤ 5) (hs3 : ships.length ≤ 3) (hsc : ships.length ≤ c2) (hTc : T.length ≤ c3)
  (hpf : ∀ j : Nat, j < ships.length → ∃ kp, spec_l09Placements.f kp (W0 : Int) (H0 : Int) ships (rd ships (j : Int)) = some (placeOf W0 H0 ships j))
  (hag : ∀ list : List Int, list.length = ships.length → InPl W0 H0 ships list → ∃ ka, spec_l09Agrees.f ka list T = some (agFrom list 0 T)) :
  ∀ (d : Nat) (list : List Int) (used most : Int) (A : Option Addr) (c : Nat) (okL : Nat → Prop) (w : World), list.length + d = ships.length → InPl W0 H0 ships list → most < 9223372036854775808 → Kd.F (Kd.int .i64) w okL A list.length list → list.length ≤ c → Kd.C k45 w A3 T.length T → Kd.C (Kd.int .i64) w A2 ships.length ships →
  Calls Try.prog 16 #[.agg #[.int .i64 (W0 : Int), .int .i64 (H0 : Int), .slice A2 ships.length c2], .slice A list.length c, .int .i64 used, .slice A3 T.length c3, .int .i64 most] w fun e w' => ∃ v, e = .returned v ∧ Kd.N (Kd.slice 2 (Kd.int .i64)) 22 w' w.heap.size (fun k => okL k ∨ w.heap.size ≤ k) v (goV W0 H0 ships T d list used most) ∧ Below w.heap.size w w' := by
 have HPF := Aside0.mk hpf
 have HAG := Aside0.mk hag
 have HS3 := Aside0.mk hs3
 have HS2 := Aside0.mk hsc
 have HTc := Aside0.mk hTc
 have HPl : Aside0 (∀ j : Nat, (placeOf W0 H0 ships j).length ≤ 100) := ⟨fun j => placesOf_len hw hh⟩
 clear hpf hag hs3 hsc hTc hw hh
 have hu28 := Try.underlying28
 intro d
 induction d with
 | zero =>
  intro list used most A c okL w hd hin hm hF hc hT hS
  obtain ⟨ka, hka⟩ := HAG.out list (by omega) hin
  exact spec_l09Go.ends W0 H0 ships A2 c2 A3 c3 T used most list A c okL ka w (by omega) hF hc hT HTc.out hka
 | succ d ih =>
  intro list used most A c okL w hd hin hm hF hc hT hS
  obtain ⟨ad2, rfl, hsc⟩ := Kd.at_int hS (list.length : Int) (by omega) (by omega)
  rw [Int.toNat_natCast] at hsc
  have HIH := Aside0.mk ih
  have HF := Aside0.mk hF
  have HT := Aside0.mk hT
  have HSh := Aside0.mk hS
  have HLc := Aside0.mk hc
  have HD := Aside0.mk hd
  have HIn0 := Aside0.mk hin
  have HMo := Aside0.mk hm
  obtain ⟨kp, HPf0⟩ := HPF.out list.length (by omega)
  obtain ⟨sh, hsh⟩ : ∃ sh, rd ships (list.length : Int) = sh := ⟨_, rfl⟩
  rw [hsh] at hsc HPf0
  obtain ⟨P, hP⟩ : ∃ P, placeOf W0 H0 ships list.length = P := ⟨_, rfl⟩
  have hPl : P.length ≤ 100 := by rw [← hP]; exact HPl.out _
  rw [hP] at HPf0
  have HPL := Aside0.mk hPl
  have HPf := Aside0.mk HPf0
  have HPm := Aside0.mk (fun (x : Int) (hx : x ∈ P) => show x ∈ placeOf W0 H0 ships list.length by rw [hP]; exact hx)
  obtain ⟨O, hO0, hOs, hOe, hOk, hOl⟩ := go_rows most (fun own => goOk ships list own used) (fun own rest => goV W0 H0 ships T d (list ++ [own]) (Go.bits .or .i64 used own) rest) (100 ^ d) (fun own rest => goV_len W0 H0 ships T HPl.out d _ _ _) P
  have hgoal : goV W0 H0 ships T (d + 1) list used most = O P.length := by rw [← hOe, ← hP]; rfl
  rw [hgoal]
  have HOl : Aside0 (∀ j, j ≤ P.length → (O j).length ≤ 1000000) := ⟨fun j hj => Nat.le_trans (hOl j hj) (Nat.le_trans (Nat.mul_le_mul hPl (Nat.pow_le_pow_right (by omega) (show d ≤ 2 by have := HS3.out; omega))) (by omega))⟩
  have HFl := Aside0.mk (fun own rest => Nat.le_trans (goV_len W0 H0 ships T HPl.out d (list ++ [own]) (Go.bits .or .i64 used own) rest) (Nat.le_trans (Nat.pow_le_pow_right (by omega) (show d ≤ 2 by have := HS3.out; omega)) (show 100 ^ 2 ≤ 10000 by omega)))
  have HO0 := Aside0.mk hO0
  have HOS := Aside0.mk hOs
  have HOK := Aside0.mk hOk
  have HOwn := Aside0.mk (own_val list (by have := HS3.out; omega))
  have HRoom := Aside0.mk (show (list.length + 1) * 8 ≤ 140737488355328 by have := HS3.out; omega)
  have HSc := Aside0.mk hsc
  have hne : ((list.length : Int) == (ships.length : Int)) = false := beq_eq_false_iff_ne.mpr (by omega)
  have hnen : (list.length == ships.length) = false := beq_eq_false_iff_ne.mpr (by omega)
  have qa := eq_true (show (list.length : Int) < (ships.length : Int) by omega)
  have qb := eq_true (show list.length < ships.length by omega)
  have qc := eq_true (show (0 : Int) ≤ (list.length : Int) by omega)
  have HSH := Aside0.mk hsh
  clear hO0 hOs hOe hOk hOl hgoal hP hPl HPf0 hsc hF hc hT hS hd hin hm ih hsh
  go_enter Try.func16, Try.ntmps16
  go_wp2_with (first | ((with_reducible refine gate_dst (N := 5) rfl ?_); refine box_event ?hg (N := 5) ?hd (cs := #[.int .i64 (W0 : Int), .int .i64 (H0 : Int), .slice (some ad2) ships.length c2]) (t := 28) ?hr ?_; (case hd => rfl); (case hg => rfl); (case hr => first | (go_simp; done) | (go_simp; rfl)); intro g5 hg5 w1 hbox hb; have HX := Aside0.mk hbox; have HB := Aside0.mk hb; clear hbox hb hg5; have hs0 := (bc_ HX.out 0).trans rfl; have hs1 := (bc_ HX.out 1).trans rfl; have hs2 := (bc_ HX.out 2).trans rfl) | ((with_reducible refine gate_dst (N := 30) rfl ?_); refine Kd.N_lit (Kd.slice 2 (Kd.int .i64)) (w0 := w1) w1.heap.size 22 ?hg (N' := 30) ?hd (xs := ([] : List (List Int))) (inner := []) (ok := fun k => okL k ∨ w.heap.size ≤ k) (okp := fun _ => False) ?hr ?hp (fun _ hk => hk.elim) (.inr (bz_ HB.out)) (Below.refl _ _) (Nat.le_refl _) (by simp) ?_; (case hd => rfl); (case hg => rfl); (case hr => first | (go_simp; done) | (go_simp; rfl)); (case hp => exact Reps.none _ _); intro v30 w3 ho hb hg_ hnew_; clear hg_ hnew_; obtain ⟨A30, c30, e30⟩ := Kd.N_slice ho; subst e30; rw [show (([] : List (List Int)).length) = 0 from rfl] at ho; (try clear hs0); (try clear hs1); (try clear hs2); have HN := Aside0.mk (Kd.N_lower ho (bz_ HB.out)); have n1_ := Aside0.mk (bb_ HX.out hb); have n2_ := Aside0.mk (bp_ HB.out hb); clear HX HB ho hb; have HX := n1_; have HB := n2_; clear n1_ n2_; have hs0 := (bc_ HX.out 0).trans rfl; have hs1 := (bc_ HX.out 1).trans rfl; have hs2 := (bc_ HX.out 2).trans rfl))
  have HXd := Aside0.mk (bkd_ HX.out)
  have HNd := Aside0.mk (Kd.N_drew HN.out)
  have HBd := Aside0.mk (bd1_ HB.out)
  have hsd := (HBd.out.cell (World.block_lt_of_cell? _ _ HSc.out)).trans HSc.out
  clear HX HN HB hs0 hs1 hs2
  refine start_ (n := 8) (S := fun w' => w'.cell? ⟨g5, 0, none⟩ = some (.int .i64 (W0 : Int)) ∧ w'.cell? ⟨g5, 1, none⟩ = some (.int .i64 (H0 : Int)) ∧ w'.cell? ⟨g5, 2, none⟩ = some (.slice (some ad2) ships.length c2) ∧ w'.cell? (ad2.add list.length) = some (.int .i64 sh)) (ds := []) #[false, false, false, false, false, false, false, false] (by kernel_rfl) rfl rfl ⟨(bc_ HXd.out 0).trans rfl, (bc_ HXd.out 1).trans rfl, (bc_ HXd.out 2).trans rfl, hsd⟩ (fun hHeld => ?_)
  refine with_tabW spec_l09Go.tab6 spec_l09Go.bits6 (fun HT_ HW_ => ?_)
  generalize hq_ : w3.drew = wd_ at HXd HNd HBd hsd hHeld ⊢
  clear hq_
  refine pure_ (i := 1) (N := some 32) (v := ?_) (a' := ?_) (flg_ 8 2) rfl rfl (any_of HT_.out (by kernel_rfl)) (fun _ _ _ h => h) (Or.inl ⟨by rfl, ?_⟩) ?_ ?_
  rotate_left; (· (intro w'; go_simp; with_reducible rfl)); rotate_left; (· (simp only [Act.put, sz_, s0_, s1_, i64_w, i32_w]; rfl))
  refine pure_ (i := 3) (N := some 34) (v := ?_) (a' := ?_) (flg_ 8 10) rfl rfl (any_of HT_.out (by kernel_rfl)) (fun _ _ _ h => h) (Or.inl ⟨by rfl, ?_⟩) ?_ ?_
  rotate_left; (· (intro w'; go_simp; with_reducible rfl)); rotate_left; (· (simp only [Act.put, sz_, s0_, s1_, i64_w, i32_w]; rfl))
  refine take_ (i := 0) (N := some 31) (v := ?_) (a' := ?_) (flg_ 8 11) rfl rfl (take_ofW HT_.out HW_.out (by kernel_rfl)) (fun _ _ _ h => h) (Or.inl ⟨by rfl, ?_⟩) hHeld ?_ ?_
  rotate_left; (· (rintro w' ⟨s0_, s1_, s2_, s3_⟩; go_simp; with_reducible rfl)); rotate_left; (· (simp only [Act.put, sz_, s0_, s1_, i64_w, i32_w]; rfl))
  refine take_ (i := 2) (N := some 33) (v := ?_) (a' := ?_) (flg_ 8 15) rfl rfl (take_ofW HT_.out HW_.out (by kernel_rfl)) (fun _ _ _ h => h) (Or.inl ⟨by rfl, ?_⟩) hHeld ?_ ?_
  rotate_left; (· (rintro w' ⟨s0_, s1_, s2_, s3_⟩; go_simp; with_reducible rfl)); rotate_left; (· (simp only [Act.put, sz_, s0_, s1_, i64_w, i32_w]; rfl))
  refine pure_ (i := 4) (N := some 35) (v := ?_) (a' := ?_) (flg_ 8 31) rfl rfl (any_of HT_.out (by kernel_rfl)) (fun _ _ _ h => h) (Or.inl ⟨by rfl, ?_⟩) ?_ ?_
  rotate_left; (· (intro w'; go_simp; with_reducible rfl)); rotate_left; (· (simp only [Act.put, sz_, s0_, s1_, i64_w, i32_w]; rfl))
  refine take_ (i := 5) (N := some 36) (v := ?_) (a' := ?_) (flg_ 8 63) rfl rfl (take_ofW HT_.out HW_.out (by kernel_rfl)) (fun _ _ _ h => h) (Or.inl ⟨by rfl, ?_⟩) hHeld ?_ ?_
  rotate_left; (· (rintro w' ⟨s0_, s1_, s2_, s3_⟩; go_simp; with_reducible rfl)); rotate_left; (· (simp only [Act.put, sz_, s0_, s1_, i64_w, i32_w]; rfl))
  refine one_ (i := 6) (N := some 37) (flg_ 8 127) rfl rfl (one_of HT_.out (by kernel_rfl)) (by decide) (fun K hK => ?_)
  refine goes_ Try.func28 (by kernel_rfl) rfl #[.agg #[.int .i64 (W0 : Int), .int .i64 (H0 : Int), .slice (some ad2) ships.length c2], .int .i64 sh] (by rfl) rfl rfl (by (try simp only [List.map_toArray, List.map_cons, List.map_nil]); first | done | rfl) ?_
  refine (spec_l09Placements.calls kp (W0 : Int) (H0 : Int) (some ad2) c2 ships sh P _ (Kd.C_below HSh.out HBd.out) HS2.out HPf.out).mono ?_
  rintro e w5 ⟨v37, rfl, ho, hb⟩
  refine ⟨_, rfl, ?_⟩
  obtain ⟨A13, c13, e13⟩ := Kd.R_slice ho
  subst e13
  have HP := Aside0.mk (Kd.R_lower ho (bz_ HBd.out))
  have HX := Aside0.mk (bb_ HXd.out hb)
  have HN := Aside0.mk (Kd.N_below HNd.out hb)
  have hsd2 := (hb.cell (World.block_lt_of_cell? _ _ hsd)).trans hsd
  have HB := Aside0.mk (bp_ HBd.out hb)
  clear ho hb HXd HNd HBd hsd
  refine hK.out _ _ ⟨(bc_ HX.out 0).trans rfl, (bc_ HX.out 1).trans rfl, (bc_ HX.out 2).trans rfl, hsd2⟩ (fun hHeld => ?_)
  clear hK K hsd2
  refine norm_ (a' := ?_) ?_ ?_
  rotate_left
  ·show Act.put _ (some 37) _ = _
   simp only [Act.put, sz_, s0_, s1_, i64_w, i32_w]
   rfl
  refine pure_ (i := 7) (N := some 13) (v := ?_) (a' := ?_) (flg_ 8 255) rfl rfl (any_of HT_.out (by kernel_rfl)) (fun _ _ _ h => h) (Or.inl ⟨by rfl, ?_⟩) ?_ ?_
  rotate_left; (· (intro w'; go_simp; with_reducible rfl)); rotate_left; (· (simp only [Act.put, sz_, s0_, s1_, i64_w, i32_w]; rfl))
  refine done_ (done_of HT_.out (by kernel_rfl)) ?_
  (try go_wp2_with fail)
  go_loopg [12, 14] P.length (fun gg s12 s14 wr => ∃ (j : Nat) (A12 : Option Addr) (c12 : Nat), j ≤ P.length ∧ P.length - j ≤ gg ∧ s12 = .slice A12 (O j).length c12 ∧ s14 = .int .i64 j ∧ Aside0 (Kd.N (Kd.slice 2 (Kd.int .i64)) 22 wr w.heap.size (fun k => okL k ∨ w.heap.size ≤ k) (.slice A12 (O j).length c12) (O j)) ∧ Aside0 (Kd.R (Kd.int .i64) 2 wr w.heap.size (fun _ => True) (.slice A13 P.length c13) P) ∧ Aside0 (wr.heap[g5]? = some (.cells #[.int .i64 (W0 : Int), .int .i64 (H0 : Int), .slice (some ad2) ships.length c2] 28 (0, 0))) ∧ Aside0 (Below w.heap.size w wr))
  case atStart => exact ⟨0, A30, c30, Nat.zero_le _, by omega, by rw [HO0.out]; rfl, rfl, ⟨by rw [HO0.out]; exact HN.out⟩, HP, HX, HB⟩
  case round =>
   clear HX HN HB HP
   obtain ⟨j, A12, c12, hj, hgj, rfl, rfl, HN, HP, HX, HB⟩ := hrel
   have hs0 := (bc_ HX.out 0).trans rfl
   have hs1 := (bc_ HX.out 1).trans rfl
   have hs2 := (bc_ HX.out 2).trans rfl
   by_cases hlt : j < P.length
   ·obtain ⟨adj, eqj, hxj⟩ := Kd.at_int (Kd.R_reads' HP.out).2.2 (j : Int) (by omega) (by omega)
    subst eqj
    rw [Int.toNat_natCast] at hxj
    obtain ⟨own, hown0⟩ : ∃ own, rd P (j : Int) = own := ⟨_, rfl⟩
    have hown : P[j] = own := by rw [← hown0, rd_get P j hlt]
    rw [hown0] at hxj
    have HRd := Aside0.mk hown0
    obtain ⟨ol, hol⟩ : ∃ ol, O j = ol := ⟨_, rfl⟩
    have HOlen := Aside0.mk (show ol.length ≤ 1000000 by rw [← hol]; exact HOl.out j hj)
    rw [hol] at HN ⊢
    have q1 := decide_eq_true (show (j : Int) < (P.length : Int) by omega)
    have q2 := decide_eq_true hlt
    have q3 := eq_true (show (j : Int) < (P.length : Int) by omega)
    have q4 := eq_true (show (0 : Int) ≤ (j : Int) by omega)
    have q5 := eq_true hlt
    have HJ0 := Aside0.mk (show (0 : Int) ≤ (j : Int) by omega)
    have HJ1 := Aside0.mk (show (j : Int) < (P.length : Int) by omega)
    have HJm := Aside0.mk (show P.length - (j + 1) < gk by omega)
    have HJr := Aside0.mk (show j + 1 ≤ P.length by omega)
    have HJs := Aside0.mk (show wrap64 ((j : Int) + 1) = ((j + 1 : Nat) : Int) from wrap_one (a := j) (by have := HPL.out; omega))
    have HLen := Aside0.mk (show (list ++ [own]).length + d = ships.length by have := HD.out; simp; omega)
    have HIn := Aside0.mk (HIn0.out.snoc (HPm.out own (by rw [← hown]; exact List.getElem_mem hlt)))
    clear hown0
    by_cases hneg : most < 0
    ·
     have HOs0 := HOS.out j hlt
     rw [hown, hol] at HOs0
     unfold goStep at HOs0
     rw [if_pos (.inl hneg)] at HOs0
     rw [if_pos hneg] at HOs0
     obtain ⟨rest, hrest⟩ : ∃ rest, most = rest := ⟨_, rfl⟩
     rw [hrest] at HOs0
     have HRest := Aside0.mk (show rest < 9223372036854775808 by have := HMo.out; omega)
     obtain ⟨fls, hfls⟩ : ∃ fls, goV W0 H0 ships T d (list ++ [own]) (Go.bits .or .i64 used own) rest = fls := ⟨_, rfl⟩
     have HFlen := HFl.out own rest
     rw [hfls] at HFlen
     have HFv := Aside0.mk hfls
     simp only [hfls] at HOs0
     have HCap := Aside0.mk (show (ol.length + fls.length) * 24 ≤ 140737488355328 by have := HOlen.out; omega)
     have hr2 := hrest.symm
     clear hrest
     subst hr2
     have m1 := decide_eq_true hneg
     have m2 := eq_true hneg
     have m3 := decide_eq_false (show ¬ (0 : Int) ≤ rest by omega)
     have m4 := decide_eq_false (show ¬ rest ≥ (0 : Int) by omega)
     clear hfls HFlen hown hlt hj hgj hneg
     rcases goOk_cases ships list own used with ⟨hbz, hok⟩ | ⟨hbz, hl0, hok⟩ | ⟨m, hm, hbz, ⟨h1, hok⟩ | ⟨h1, h2, hok⟩ | ⟨h1, h2, hok⟩⟩
     case inl =>
      rw [if_neg (by rw [hok]; simp)] at HOs0
      have HOs := Aside0.mk HOs0
      clear HOs0 hok
      have b1 : (Go.bits .and .i64 own used != 0) = true := bne_iff_ne.mpr hbz
      have b2 : (Go.bits .and .i64 own used == 0) = false := beq_eq_false_iff_ne.mpr hbz
      go_wp2_with fail
      go_quiet (fail)
      go_wp2_with fail
      have hbq := pbN_ (Below.refl wr.heap.size wr) nq
      go_roundg (P.length - (j + 1))
      case measure => exact HJm.out
      case rel => exact ⟨j + 1, A12, c12, HJr.out, Nat.le_refl _, by rw [HOs.out], (by first | rfl | exact congrArg (Value.int .i64) HJs.out), ⟨by rw [HOs.out]; exact Kd.N_below HN.out hbq⟩, ⟨Kd.R_below HP.out hbq⟩, ⟨bb_ HX.out hbq⟩, ⟨bp_ HB.out hbq⟩⟩
     case inr.inr.inr.inl =>
      rw [if_neg (by rw [hok]; simp)] at HOs0
      have HOs := Aside0.mk HOs0
      clear HOs0 hok
      have b1 : (Go.bits .and .i64 own used != 0) = false := by rw [hbz]; rfl
      have b2 : (Go.bits .and .i64 own used == 0) = true := by rw [hbz]; rfl
      obtain ⟨adL, eL, k3⟩ := Kd.at_int (Kd.C_below (Kd.F_now HF.out) HB.out) (m : Int) (by omega) (by omega)
      subst eL
      obtain ⟨ad21, e21, k1⟩ := Kd.at_int (Kd.C_below HSh.out HB.out) (list.length : Int) (by omega) (by have := HD.out; omega)
      obtain ⟨ad22, e22, k2⟩ := Kd.at_int (Kd.C_below HSh.out HB.out) (m : Int) (by omega) (by have := HD.out; omega)
      injection e21 with e21
      injection e22 with e22
      subst e21 e22
      rw [Int.toNat_natCast] at k1 k2 k3
      rw [HSH.out] at k1 h1
      have h0 := decide_eq_true (show (0 : Int) < (list.length : Int) by omega)
      have h0n := decide_eq_true (show 0 < list.length by omega)
      have w1_ := eq_true (show (m : Int) < (ships.length : Int) by have := HD.out; omega)
      have w2_ := eq_true (show m < ships.length by have := HD.out; omega)
      have w3_ := eq_true (show (m : Int) < (list.length : Int) by omega)
      have w4_ := eq_true (show m < list.length by omega)
      have w5_ := eq_true (show (0 : Int) ≤ (m : Int) by omega)
      have hn1 : wrap64 ((list.length : Int) - 1) = (m : Int) := by have := HS3.out; have := HD.out; unfold wrap64; omega
      clear hm
      generalize rd ships (m : Int) = s2 at *
      generalize rd list (m : Int) = lx at *
      subst h1
      have h1b := beq_self_eq_true sh
      have h2b := decide_eq_true h2
      have h2c := eq_true h2
      go_wp2_with fail
      go_quiet (fail)
      go_wp2_with fail
      have hbq := pbN_ (Below.refl wr.heap.size wr) nq
      go_roundg (P.length - (j + 1))
      case measure => exact HJm.out
      case rel => exact ⟨j + 1, A12, c12, HJr.out, Nat.le_refl _, by rw [HOs.out], (by first | rfl | exact congrArg (Value.int .i64) HJs.out), ⟨by rw [HOs.out]; exact Kd.N_below HN.out hbq⟩, ⟨Kd.R_below HP.out hbq⟩, ⟨bb_ HX.out hbq⟩, ⟨bp_ HB.out hbq⟩⟩
     case' inr.inl =>
      rw [if_pos hok] at HOs0
      have HOs := Aside0.mk HOs0
      clear HOs0 hok
      have b1 : (Go.bits .and .i64 own used != 0) = false := by rw [hbz]; rfl
      have b2 : (Go.bits .and .i64 own used == 0) = true := by rw [hbz]; rfl
      have h0 := decide_eq_false (show ¬ (0 : Int) < (list.length : Int) by omega)
      have h0n := decide_eq_false (show ¬ 0 < list.length by omega)
      clear hl0
      go_wp2_with fail
      go_quiet (fail)
      go_wp2_with fail
     case' inr.inr.inl =>
      rw [if_pos hok] at HOs0
      have HOs := Aside0.mk HOs0
      clear HOs0 hok
      have b1 : (Go.bits .and .i64 own used != 0) = false := by rw [hbz]; rfl
      have b2 : (Go.bits .and .i64 own used == 0) = true := by rw [hbz]; rfl
      obtain ⟨adL, eL, k3⟩ := Kd.at_int (Kd.C_below (Kd.F_now HF.out) HB.out) (m : Int) (by omega) (by omega)
      subst eL
      obtain ⟨ad21, e21, k1⟩ := Kd.at_int (Kd.C_below HSh.out HB.out) (list.length : Int) (by omega) (by have := HD.out; omega)
      obtain ⟨ad22, e22, k2⟩ := Kd.at_int (Kd.C_below HSh.out HB.out) (m : Int) (by omega) (by have := HD.out; omega)
      injection e21 with e21
      injection e22 with e22
      subst e21 e22
      rw [Int.toNat_natCast] at k1 k2 k3
      rw [HSH.out] at k1 h1
      have h0 := decide_eq_true (show (0 : Int) < (list.length : Int) by omega)
      have h0n := decide_eq_true (show 0 < list.length by omega)
      have w1_ := eq_true (show (m : Int) < (ships.length : Int) by have := HD.out; omega)
      have w2_ := eq_true (show m < ships.length by have := HD.out; omega)
      have w3_ := eq_true (show (m : Int) < (list.length : Int) by omega)
      have w4_ := eq_true (show m < list.length by omega)
      have w5_ := eq_true (show (0 : Int) ≤ (m : Int) by omega)
      have hn1 : wrap64 ((list.length : Int) - 1) = (m : Int) := by have := HS3.out; have := HD.out; unfold wrap64; omega
      clear hm
      generalize rd ships (m : Int) = s2 at *
      generalize rd list (m : Int) = lx at *
      have h1b : (sh == s2) = false := beq_eq_false_iff_ne.mpr h1
      go_wp2_with fail
      go_quiet (fail)
      go_wp2_with fail
      clear h1 h1b
     case' inr.inr.inr.inr =>
      rw [if_pos hok] at HOs0
      have HOs := Aside0.mk HOs0
      clear HOs0 hok
      have b1 : (Go.bits .and .i64 own used != 0) = false := by rw [hbz]; rfl
      have b2 : (Go.bits .and .i64 own used == 0) = true := by rw [hbz]; rfl
      obtain ⟨adL, eL, k3⟩ := Kd.at_int (Kd.C_below (Kd.F_now HF.out) HB.out) (m : Int) (by omega) (by omega)
      subst eL
      obtain ⟨ad21, e21, k1⟩ := Kd.at_int (Kd.C_below HSh.out HB.out) (list.length : Int) (by omega) (by have := HD.out; omega)
      obtain ⟨ad22, e22, k2⟩ := Kd.at_int (Kd.C_below HSh.out HB.out) (m : Int) (by omega) (by have := HD.out; omega)
      injection e21 with e21
      injection e22 with e22
      subst e21 e22
      rw [Int.toNat_natCast] at k1 k2 k3
      rw [HSH.out] at k1 h1
      have h0 := decide_eq_true (show (0 : Int) < (list.length : Int) by omega)
      have h0n := decide_eq_true (show 0 < list.length by omega)
      have w1_ := eq_true (show (m : Int) < (ships.length : Int) by have := HD.out; omega)
      have w2_ := eq_true (show m < ships.length by have := HD.out; omega)
      have w3_ := eq_true (show (m : Int) < (list.length : Int) by omega)
      have w4_ := eq_true (show m < list.length by omega)
      have w5_ := eq_true (show (0 : Int) ≤ (m : Int) by omega)
      have hn1 : wrap64 ((list.length : Int) - 1) = (m : Int) := by have := HS3.out; have := HD.out; unfold wrap64; omega
      clear hm
      generalize rd ships (m : Int) = s2 at *
      generalize rd list (m : Int) = lx at *
      subst h1
      have h1b := beq_self_eq_true sh
      have h2b := decide_eq_false h2
      have h2c := eq_false h2
      go_wp2_with fail
      go_quiet (fail)
      go_wp2_with fail
      clear h1b h2 h2b h2c
     all_goals
      (try clear b1 b2)
      (try clear h0 h0n)
      (try clear hn1)
      have hbq := bd1_ (pbN_ (Below.refl wr.heap.size wr) nq)
      have HXd := Aside0.mk (bb_ HX.out hbq)
      have HNd := Aside0.mk (Kd.N_below HN.out hbq)
      have HBd := Aside0.mk (bp_ HB.out hbq)
      have HPd := Aside0.mk (Kd.R_below HP.out hbq)
      have hjd := (hbq.cell (World.block_lt_of_cell? _ _ hxj)).trans hxj
      clear hbq hxj
      (try clear k1)
      (try clear k2)
      (try clear k3)
      clear HX HN HB HP hs0 hs1 hs2
      refine start_ (n := 21) (S := fun w' => w'.cell? ⟨g5, 0, none⟩ = some (.int .i64 (W0 : Int)) ∧ w'.cell? ⟨g5, 1, none⟩ = some (.int .i64 (H0 : Int)) ∧ w'.cell? ⟨g5, 2, none⟩ = some (.slice (some ad2) ships.length c2) ∧ w'.cell? (adj.add j) = some (.int .i64 own)) (ds := []) #[false, false, false, false, false, false, false, false, false, false, false, false, false, false, false, false, false, false, false, false, false] (by kernel_rfl) rfl rfl ⟨(bc_ HXd.out 0).trans rfl, (bc_ HXd.out 1).trans rfl, (bc_ HXd.out 2).trans rfl, hjd⟩ (fun hHeld => ?_)
      refine with_tabW spec_l09Go.tab14 spec_l09Go.bits14 (fun HT_ HW_ => ?_)
      generalize hq_ : (wr.drewN nq).drew = wd_ at HXd HNd HBd HPd hjd hHeld ⊢
      clear hq_
      have HBr := Aside0.mk (Below.refl wd_.heap.size wd_)
      refine pure_ (i := 0) (N := some 98) (v := ?_) (a' := ?_) (flg_ 21 1) rfl rfl (any_of HT_.out (by kernel_rfl)) (fun _ _ _ h => h) (Or.inl ⟨by rfl, ?_⟩) ?_ ?_
      rotate_left; (· (intro w'; go_simp; with_reducible rfl)); rotate_left; (· (simp only [Act.put, sz_, s0_, s1_, i64_w, i32_w]; rfl))
      refine pure_ (i := 2) (N := some 100) (v := ?_) (a' := ?_) (flg_ 21 5) rfl rfl (any_of HT_.out (by kernel_rfl)) (fun _ _ _ h => h) (Or.inl ⟨by rfl, ?_⟩) ?_ ?_
      rotate_left; (· (intro w'; go_simp; with_reducible rfl)); rotate_left; (· (simp only [Act.put, sz_, s0_, s1_, i64_w, i32_w]; rfl))
      refine pure_ (i := 4) (N := some 102) (v := ?_) (a' := ?_) (flg_ 21 21) rfl rfl (any_of HT_.out (by kernel_rfl)) (fun _ _ _ h => h) (Or.inl ⟨by rfl, ?_⟩) ?_ ?_
      rotate_left; (· (intro w'; go_simp; with_reducible rfl)); rotate_left; (· (simp only [Act.put, sz_, s0_, s1_, i64_w, i32_w]; rfl))
      refine pure_ (i := 5) (N := some 103) (v := ?_) (a' := ?_) (flg_ 21 53) rfl rfl (any_of HT_.out (by kernel_rfl)) (fun _ _ _ h => h) (Or.inl ⟨by rfl, ?_⟩) ?_ ?_
      rotate_left; (· (intro w'; go_simp; with_reducible rfl)); rotate_left; (· (simp only [Act.put, sz_, s0_, s1_, i64_w, i32_w]; rfl))
      refine pure_ (i := 10) (N := some 108) (v := ?_) (a' := ?_) (flg_ 21 1077) rfl rfl (any_of HT_.out (by kernel_rfl)) (fun _ _ _ h => h) (Or.inl ⟨by rfl, ?_⟩) ?_ ?_
      rotate_left; (· (intro w'; go_simp; with_reducible rfl)); rotate_left; (· (simp only [Act.put, sz_, s0_, s1_, i64_w, i32_w]; rfl))
      refine pure_ (i := 11) (N := some 109) (v := ?_) (a' := ?_) (flg_ 21 3125) rfl rfl (any_of HT_.out (by kernel_rfl)) (fun _ _ _ h => h) (Or.inl ⟨by rfl, ?_⟩) ?_ ?_
      rotate_left; (· (intro w'; go_simp; with_reducible rfl)); rotate_left; (· (simp only [Act.put, sz_, s0_, s1_, i64_w, i32_w]; rfl))
      refine pure_ (i := 12) (N := some 110) (v := ?_) (a' := ?_) (flg_ 21 7221) rfl rfl (any_of HT_.out (by kernel_rfl)) (fun _ _ _ h => h) (Or.inl ⟨by rfl, ?_⟩) ?_ ?_
      rotate_left; (· (intro w'; go_simp; with_reducible rfl)); rotate_left; (· (simp only [Act.put, sz_, s0_, s1_, i64_w, i32_w]; rfl))
      refine pure_ (i := 16) (N := some 114) (v := ?_) (a' := ?_) (flg_ 21 72757) rfl rfl (any_of HT_.out (by kernel_rfl)) (fun _ _ _ h => h) (Or.inl ⟨by rfl, ?_⟩) ?_ ?_
      rotate_left; (· (intro w'; go_simp; with_reducible rfl)); rotate_left; (· (simp only [Act.put, sz_, s0_, s1_, i64_w, i32_w]; rfl))
      refine pure_ (i := 17) (N := some 115) (v := ?_) (a' := ?_) (flg_ 21 203829) rfl rfl (any_of HT_.out (by kernel_rfl)) (fun _ _ _ h => h) (Or.inl ⟨by rfl, ?_⟩) ?_ ?_
      rotate_left; (· (intro w'; go_simp; with_reducible rfl)); rotate_left; (· (simp only [Act.put, sz_, s0_, s1_, i64_w, i32_w]; rfl))
      refine take_ (i := 1) (N := some 99) (v := ?_) (a' := ?_) (flg_ 21 203831) rfl rfl (take_ofW HT_.out HW_.out (by kernel_rfl)) (fun _ _ _ h => h) (Or.inl ⟨by rfl, ?_⟩) hHeld ?_ ?_
      rotate_left; (· (rintro w' ⟨s0_, s1_, s2_, s3_⟩; go_simp; with_reducible rfl)); rotate_left; (· (simp only [Act.put, sz_, s0_, s1_, i64_w, i32_w]; rfl))
      refine pure_ (i := 6) (N := some 104) (v := ?_) (a' := ?_) (flg_ 21 203895) rfl rfl (any_of HT_.out (by kernel_rfl)) (fun _ _ _ h => h) (Or.inl ⟨by rfl, ?_⟩) ?_ ?_
      rotate_left; (· (intro w'; go_simp; with_reducible rfl)); rotate_left; (· (simp only [Act.put, sz_, s0_, s1_, i64_w, i32_w]; rfl))
      refine take_ (i := 7) (N := some 105) (v := ?_) (a' := ?_) (flg_ 21 204023) rfl rfl (take_ofW HT_.out HW_.out (by kernel_rfl)) (fun _ _ _ h => h) (Or.inl ⟨by rfl, ?_⟩) hHeld ?_ ?_
      rotate_left; (· (rintro w' ⟨s0_, s1_, s2_, s3_⟩; go_simp; with_reducible rfl)); rotate_left; (· (simp only [Act.put, sz_, s0_, s1_, i64_w, i32_w]; rfl))
      refine pure_ (i := 13) (N := some 111) (v := ?_) (a' := ?_) (flg_ 21 212215) rfl rfl (any_of HT_.out (by kernel_rfl)) (fun _ _ _ h => h) (Or.inl ⟨by rfl, ?_⟩) ?_ ?_
      rotate_left; (· (intro w'; go_simp; with_reducible rfl)); rotate_left; (· (simp only [Act.put, sz_, s0_, s1_, i64_w, i32_w]; rfl))
      refine take_ (i := 14) (N := some 112) (v := ?_) (a' := ?_) (flg_ 21 228599) rfl rfl (take_ofW HT_.out HW_.out (by kernel_rfl)) (fun _ _ _ h => h) (Or.inl ⟨by rfl, ?_⟩) hHeld ?_ ?_
      rotate_left; (· (rintro w' ⟨s0_, s1_, s2_, s3_⟩; go_simp; with_reducible rfl)); rotate_left; (· (simp only [Act.put, sz_, s0_, s1_, i64_w, i32_w]; rfl))
      refine pure_ (i := 15) (N := some 113) (v := ?_) (a' := ?_) (flg_ 21 261367) rfl rfl (any_of HT_.out (by kernel_rfl)) (fun _ _ _ h => h) (Or.inl ⟨by rfl, ?_⟩) ?_ ?_
      rotate_left; (· (intro w'; go_simp; with_reducible rfl)); rotate_left; (· (simp only [Act.put, sz_, s0_, s1_, i64_w, i32_w]; rfl))
      refine two_ (i := 3) (j := 8) (Ni := some 101) (Nj := some 106) (flg_ 21 261375) (flg_ 21 261623) rfl rfl rfl rfl (two_of HT_.out (by kernel_rfl)) (by decide) (by decide) (fun K hK => ?_) (fun K hK => ?_)
      focus
       refine goes_ Try.func29 (by kernel_rfl) rfl #[.slice _ list.length c] (by rfl) rfl rfl (by (try simp only [List.map_toArray, List.map_cons, List.map_nil]); first | done | rfl) ?_
       refine (spec_l01Own.calls _ c list list _ (Kd.C_below (Kd.C_below (Kd.F_now HF.out) HBd.out) HBr.out) HLc.out HOwn.out).mono ?_
       rintro e wk_ ⟨v101, rfl, ho, hb⟩
       refine ⟨_, rfl, ?_⟩
       have HV := Aside0.mk (Kd.R_lower ho (bz_ HBr.out))
       clear ho
       have nB_ := Aside0.mk (bp_ HBr.out hb)
       clear hb HBr
       have HBr := nB_
       clear nB_
       refine hK.out _ _ ⟨(bc_ (bb_ HXd.out HBr.out) 0).trans rfl, (bc_ (bb_ HXd.out HBr.out) 1).trans rfl, (bc_ (bb_ HXd.out HBr.out) 2).trans rfl, (HBr.out.cell (World.block_lt_of_cell? _ _ hjd)).trans hjd⟩ (fun hHeld => ?_)
       clear hK K
       refine norm_ (a' := ?_) ?_ ?_
       rotate_left
       ·show Act.put _ (some 101) _ = _
        simp only [Act.put, sz_, s0_, s1_, i64_w, i32_w]
        rfl
       refine one_ (i := 8) (N := some 106) (flg_ 21 261631) rfl rfl (one_of HT_.out (by kernel_rfl)) (by decide) (fun K hK => ?_)
       refine Kd.R_lit_step (Kd.int .i64) _ 2 ?hg (N := 106) ?hd (xs := ([own] : List Int)) (inner := [.int .i64 own]) (ok := fun _ => True) (okp := fun _ => True) ?hr ?hp (fun _ hk => hk) trivial (Below.refl _ _) (Nat.le_refl _) (by simp) ?_; (case hd => rfl); (case hg => rfl); (case hr => first | (go_simp; done) | (go_simp; rfl)); (case hp => exact (Reps.one (show Kd.M (Kd.int .i64) _ _ _ own [.int .i64 own] from rfl) (Reps.none _ _)))
       intro v106 wl_ ho hb hg_ hnew_
       clear hg_ hnew_
       have HY := Aside0.mk (Kd.R_lower ho (bz_ HBr.out))
       clear ho
       have nB_ := Aside0.mk (bp_ HBr.out hb)
       have nHV_ := Aside0.mk (Kd.R_below HV.out hb)
       clear hb HBr HV
       have HBr := nB_
       have HV := nHV_
       clear nB_ nHV_
       refine hK.out _ _ ⟨(bc_ (bb_ HXd.out HBr.out) 0).trans rfl, (bc_ (bb_ HXd.out HBr.out) 1).trans rfl, (bc_ (bb_ HXd.out HBr.out) 2).trans rfl, (HBr.out.cell (World.block_lt_of_cell? _ _ hjd)).trans hjd⟩ (fun hHeld => ?_)
       clear hK K
       refine norm_ (a' := ?_) ?_ ?_
       rotate_left
       ·show Act.put _ (some 106) _ = _
        simp only [Act.put, sz_, s0_, s1_, i64_w, i32_w]
        rfl
      rotate_left
      focus
       refine Kd.R_lit_step (Kd.int .i64) _ 2 ?hg (N := 106) ?hd (xs := ([own] : List Int)) (inner := [.int .i64 own]) (ok := fun _ => True) (okp := fun _ => True) ?hr ?hp (fun _ hk => hk) trivial (Below.refl _ _) (Nat.le_refl _) (by simp) ?_; (case hd => rfl); (case hg => rfl); (case hr => first | (go_simp; done) | (go_simp; rfl)); (case hp => exact (Reps.one (show Kd.M (Kd.int .i64) _ _ _ own [.int .i64 own] from rfl) (Reps.none _ _)))
       intro v106 wl_ ho hb hg_ hnew_
       clear hg_ hnew_
       have HY := Aside0.mk (Kd.R_lower ho (bz_ HBr.out))
       clear ho
       have nB_ := Aside0.mk (bp_ HBr.out hb)
       clear hb HBr
       have HBr := nB_
       clear nB_
       refine hK.out _ _ ⟨(bc_ (bb_ HXd.out HBr.out) 0).trans rfl, (bc_ (bb_ HXd.out HBr.out) 1).trans rfl, (bc_ (bb_ HXd.out HBr.out) 2).trans rfl, (HBr.out.cell (World.block_lt_of_cell? _ _ hjd)).trans hjd⟩ (fun hHeld => ?_)
       clear hK K
       refine norm_ (a' := ?_) ?_ ?_
       rotate_left
       ·show Act.put _ (some 106) _ = _
        simp only [Act.put, sz_, s0_, s1_, i64_w, i32_w]
        rfl
       refine one_ (i := 3) (N := some 101) (flg_ 21 261631) rfl rfl (one_of HT_.out (by kernel_rfl)) (by decide) (fun K hK => ?_)
       refine goes_ Try.func29 (by kernel_rfl) rfl #[.slice _ list.length c] (by rfl) rfl rfl (by (try simp only [List.map_toArray, List.map_cons, List.map_nil]); first | done | rfl) ?_
       refine (spec_l01Own.calls _ c list list _ (Kd.C_below (Kd.C_below (Kd.F_now HF.out) HBd.out) HBr.out) HLc.out HOwn.out).mono ?_
       rintro e wk_ ⟨v101, rfl, ho, hb⟩
       refine ⟨_, rfl, ?_⟩
       have HV := Aside0.mk (Kd.R_lower ho (bz_ HBr.out))
       clear ho
       have nB_ := Aside0.mk (bp_ HBr.out hb)
       have nHY_ := Aside0.mk (Kd.R_below HY.out hb)
       clear hb HBr HY
       have HBr := nB_
       have HY := nHY_
       clear nB_ nHY_
       refine hK.out _ _ ⟨(bc_ (bb_ HXd.out HBr.out) 0).trans rfl, (bc_ (bb_ HXd.out HBr.out) 1).trans rfl, (bc_ (bb_ HXd.out HBr.out) 2).trans rfl, (HBr.out.cell (World.block_lt_of_cell? _ _ hjd)).trans hjd⟩ (fun hHeld => ?_)
       clear hK K
       refine norm_ (a' := ?_) ?_ ?_
       rotate_left
       ·show Act.put _ (some 101) _ = _
        simp only [Act.put, sz_, s0_, s1_, i64_w, i32_w]
        rfl
      all_goals
       obtain ⟨A106, c106, e106⟩ := Kd.R_slice HY.out
       subst e106
       refine one_ (i := 9) (N := some 107) (flg_ 21 262143) rfl rfl (one_of HT_.out (by kernel_rfl)) (by decide) (fun K hK => ?_)
       refine Kd.R_append_rows_step (Kd.int .i64) (w0 := wd_) wd_.heap.size (by rfl) (.tmp 101) (.tmp 106) 22 2 (.int .i64 0) 8 rfl Try.underlying22 info2 rfl (by decide) (by omega) v101 list [own] _ _ _ (fun _ => True) (fun _ => False) rfl rfl HV.out (Kd.R_reads' HY.out).2.2 (fun _ _ h => h) (fun _ h => h.elim) (fun _ _ => trivial) HBr.out (bz_ HBr.out) HRoom.out ?_
       intro v107 wp_ ho hb hg hat
       have HA := Aside0.mk ho
       have nB_ := Aside0.mk hb
       clear ho hb hg hat HBr HV HY
       have HBr := nB_
       clear nB_
       obtain ⟨A107, c107, e107⟩ := Kd.R_slice HA.out
       subst e107
       refine hK.out _ _ ⟨(bc_ (bb_ HXd.out HBr.out) 0).trans rfl, (bc_ (bb_ HXd.out HBr.out) 1).trans rfl, (bc_ (bb_ HXd.out HBr.out) 2).trans rfl, (HBr.out.cell (World.block_lt_of_cell? _ _ hjd)).trans hjd⟩ (fun hHeld => ?_)
       clear hK K
       refine norm_ (a' := ?_) ?_ ?_
       rotate_left
       ·show Act.put _ (some 107) _ = _
        simp only [Act.put, sz_, s0_, s1_, i64_w, i32_w]
        rfl
       refine one_ (i := 18) (N := some 116) (flg_ 21 524287) rfl rfl (one_of HT_.out (by kernel_rfl)) (by decide) (fun K hK => ?_)
       refine goes_ Try.func16 (by kernel_rfl) rfl #[.agg #[.int .i64 (W0 : Int), .int .i64 (H0 : Int), .slice (some ad2) ships.length c2], .slice A107 (list ++ [own]).length c107, .int .i64 (Go.bits .or .i64 used own), .slice A3 T.length c3, .int .i64 rest] (by rfl) rfl rfl (by (try simp only [List.map_toArray, List.map_cons, List.map_nil]); first | done | rfl) ?_
       refine (HIH.out (list ++ [own]) (Go.bits .or .i64 used own) rest A107 c107 (fun k => wd_.heap.size ≤ k) wp_ HLen.out HIn.out HRest.out (Kd.F_mono (Kd.R_F (Kd.R_tight rfl HA.out)) (fun k hk => Kd.R_base HA.out k hk.symm)) (Kd.R_reads' HA.out).2.1 (Kd.C_below (Kd.C_below HT.out HBd.out) HBr.out) (Kd.C_below (Kd.C_below HSh.out HBd.out) HBr.out)).mono ?_
       rintro e wf_ ⟨v116, rfl, ho, hb⟩
       refine ⟨_, rfl, ?_⟩
       obtain ⟨A116, c116, e116⟩ := Kd.N_slice ho
       subst e116
       rw [HFv.out] at ho
       have HR := Aside0.mk (Kd.N_F (Kd.N_mono (ok' := fun k => wd_.heap.size ≤ k) ho (fun k hk => hk.elim id (fun h => Nat.le_trans (bz_ HBr.out) h))))
       have nB_ := Aside0.mk (bp_ HBr.out hb)
       clear ho hb HBr HA
       have HBr := nB_
       clear nB_
       refine hK.out _ _ ⟨(bc_ (bb_ HXd.out HBr.out) 0).trans rfl, (bc_ (bb_ HXd.out HBr.out) 1).trans rfl, (bc_ (bb_ HXd.out HBr.out) 2).trans rfl, (HBr.out.cell (World.block_lt_of_cell? _ _ hjd)).trans hjd⟩ (fun hHeld => ?_)
       clear hK K
       refine norm_ (a' := ?_) ?_ ?_
       rotate_left
       ·show Act.put _ (some 116) _ = _
        simp only [Act.put, sz_, s0_, s1_, i64_w, i32_w]
        rfl
       refine one_ (i := 19) (N := some 117) (flg_ 21 1048575) rfl rfl (one_of HT_.out (by kernel_rfl)) (by decide) (fun K hK => ?_)
       refine Kd.N_append_rows_step (Kd.slice 2 (Kd.int .i64)) (w0 := w) w.heap.size (by rfl) (.tmp 98) (.tmp 116) 37 22 (.slice none 0 0) 24 rfl Try.underlying37 info22 rfl (by decide) (by omega) (.slice A12 ol.length c12) ol fls A116 fls.length c116 (fun k => okL k ∨ w.heap.size ≤ k) (fun k => wd_.heap.size ≤ k) (by rfl) (by first | rfl | (rw [← HFv.out]; rfl)) (Kd.N_below HNd.out HBr.out) HR.out (fun k hk => ⟨.inr (Nat.le_trans (bz_ HBd.out) hk), fun e_ => by have := Kd.N_lt HNd.out k e_.symm; omega⟩) (fun k hk => .inr (Nat.le_trans (Nat.le_trans (bz_ HBd.out) (bz_ HBr.out)) hk)) (bp_ HBd.out HBr.out) (Nat.le_trans (bz_ HBd.out) (bz_ HBr.out)) HCap.out ?_
       intro v117 wg_ ho hb hg hat
       obtain ⟨A117, c117, e117⟩ := Kd.N_slice ho
       subst e117
       have HX := Aside0.mk ((hg.block _ (blk_lt (bb_ HXd.out HBr.out)) (Kd.N_ne (Kd.N_below HNd.out HBr.out) (bb_ HXd.out HBr.out) (by decide))).trans (bb_ HXd.out HBr.out))
       have HP := Aside0.mk (Kd.R_over' (e' := 22) (Kd.R_below HPd.out HBr.out) (Kd.N_typed (Kd.N_below HNd.out HBr.out)) (by decide) hg)
       have HN := Aside0.mk ho
       have HB := Aside0.mk hb
       clear ho hb hg hat HBr HR HXd HNd HBd HPd hjd
       obtain ⟨adk, ek, hxk⟩ := Kd.at_int (Kd.R_reads' HP.out).2.2 (j : Int) HJ0.out HJ1.out
       cases ek
       rw [Int.toNat_natCast, HRd.out] at hxk
       refine hK.out _ _ ⟨(bc_ HX.out 0).trans rfl, (bc_ HX.out 1).trans rfl, (bc_ HX.out 2).trans rfl, hxk⟩ (fun hHeld => ?_)
       clear hK K hxk
       refine norm_ (a' := ?_) ?_ ?_
       rotate_left
       ·show Act.put _ (some 117) _ = _
        simp only [Act.put, sz_, s0_, s1_, i64_w, i32_w]
        rfl
       refine pure_ (i := 20) (N := some 12) (v := ?_) (a' := ?_) (flg_ 21 2097151) rfl rfl (any_of HT_.out (by kernel_rfl)) (fun _ _ _ h => h) (Or.inl ⟨by rfl, ?_⟩) ?_ ?_
       rotate_left; (· (intro w'; go_simp; with_reducible rfl)); rotate_left; (· (simp only [Act.put, sz_, s0_, s1_, i64_w, i32_w]; rfl))
       refine done_ (done_of HT_.out (by kernel_rfl)) ?_
       go_wp2_with fail
       go_roundg (P.length - (j + 1))
       case measure => exact HJm.out
       case rel => exact ⟨j + 1, A117, c117, HJr.out, Nat.le_refl _, by rw [HOs.out, List.length_append], (by first | rfl | exact congrArg (Value.int .i64) HJs.out), ⟨by rw [HOs.out]; exact HN.out⟩, HP, HX, HB⟩
    ·by_cases hml : (ol.length : Int) < most
     ·
      have HOs0 := HOS.out j hlt
      rw [hown, hol] at HOs0
      unfold goStep at HOs0
      rw [if_pos (.inr hml)] at HOs0
      rw [if_neg hneg] at HOs0
      obtain ⟨rest, hrest⟩ : ∃ rest, most - (ol.length : Int) = rest := ⟨_, rfl⟩
      rw [hrest] at HOs0
      have HRest := Aside0.mk (show rest < 9223372036854775808 by have := HMo.out; omega)
      obtain ⟨fls, hfls⟩ : ∃ fls, goV W0 H0 ships T d (list ++ [own]) (Go.bits .or .i64 used own) rest = fls := ⟨_, rfl⟩
      have HFlen := HFl.out own rest
      rw [hfls] at HFlen
      have HFv := Aside0.mk hfls
      simp only [hfls] at HOs0
      have HCap := Aside0.mk (show (ol.length + fls.length) * 24 ≤ 140737488355328 by have := HOlen.out; omega)
      have m1 := decide_eq_false hneg
      have m2 := eq_false hneg
      have m3 := decide_eq_true (show (0 : Int) ≤ most by omega)
      have m4 := decide_eq_true (show most ≥ (0 : Int) by omega)
      have m5 := decide_eq_true hml
      have m6 := eq_true hml
      have m7 : wrap64 (most - (ol.length : Int)) = rest := by rw [← hrest]; have := HMo.out; have := HOlen.out; unfold wrap64; omega
      clear hfls HFlen hown hlt hj hgj hml hrest hneg
      rcases goOk_cases ships list own used with ⟨hbz, hok⟩ | ⟨hbz, hl0, hok⟩ | ⟨m, hm, hbz, ⟨h1, hok⟩ | ⟨h1, h2, hok⟩ | ⟨h1, h2, hok⟩⟩
      case inl =>
       rw [if_neg (by rw [hok]; simp)] at HOs0
       have HOs := Aside0.mk HOs0
       clear HOs0 hok
       have b1 : (Go.bits .and .i64 own used != 0) = true := bne_iff_ne.mpr hbz
       have b2 : (Go.bits .and .i64 own used == 0) = false := beq_eq_false_iff_ne.mpr hbz
       go_wp2_with fail
       go_quiet (fail)
       go_wp2_with fail
       have hbq := pbN_ (Below.refl wr.heap.size wr) nq
       go_roundg (P.length - (j + 1))
       case measure => exact HJm.out
       case rel => exact ⟨j + 1, A12, c12, HJr.out, Nat.le_refl _, by rw [HOs.out], (by first | rfl | exact congrArg (Value.int .i64) HJs.out), ⟨by rw [HOs.out]; exact Kd.N_below HN.out hbq⟩, ⟨Kd.R_below HP.out hbq⟩, ⟨bb_ HX.out hbq⟩, ⟨bp_ HB.out hbq⟩⟩
      case inr.inr.inr.inl =>
       rw [if_neg (by rw [hok]; simp)] at HOs0
       have HOs := Aside0.mk HOs0
       clear HOs0 hok
       have b1 : (Go.bits .and .i64 own used != 0) = false := by rw [hbz]; rfl
       have b2 : (Go.bits .and .i64 own used == 0) = true := by rw [hbz]; rfl
       obtain ⟨adL, eL, k3⟩ := Kd.at_int (Kd.C_below (Kd.F_now HF.out) HB.out) (m : Int) (by omega) (by omega)
       subst eL
       obtain ⟨ad21, e21, k1⟩ := Kd.at_int (Kd.C_below HSh.out HB.out) (list.length : Int) (by omega) (by have := HD.out; omega)
       obtain ⟨ad22, e22, k2⟩ := Kd.at_int (Kd.C_below HSh.out HB.out) (m : Int) (by omega) (by have := HD.out; omega)
       injection e21 with e21
       injection e22 with e22
       subst e21 e22
       rw [Int.toNat_natCast] at k1 k2 k3
       rw [HSH.out] at k1 h1
       have h0 := decide_eq_true (show (0 : Int) < (list.length : Int) by omega)
       have h0n := decide_eq_true (show 0 < list.length by omega)
       have w1_ := eq_true (show (m : Int) < (ships.length : Int) by have := HD.out; omega)
       have w2_ := eq_true (show m < ships.length by have := HD.out; omega)
       have w3_ := eq_true (show (m : Int) < (list.length : Int) by omega)
       have w4_ := eq_true (show m < list.length by omega)
       have w5_ := eq_true (show (0 : Int) ≤ (m : Int) by omega)
       have hn1 : wrap64 ((list.length : Int) - 1) = (m : Int) := by have := HS3.out; have := HD.out; unfold wrap64; omega
       clear hm
       generalize rd ships (m : Int) = s2 at *
       generalize rd list (m : Int) = lx at *
       subst h1
       have h1b := beq_self_eq_true sh
       have h2b := decide_eq_true h2
       have h2c := eq_true h2
       go_wp2_with fail
       go_quiet (fail)
       go_wp2_with fail
       have hbq := pbN_ (Below.refl wr.heap.size wr) nq
       go_roundg (P.length - (j + 1))
       case measure => exact HJm.out
       case rel => exact ⟨j + 1, A12, c12, HJr.out, Nat.le_refl _, by rw [HOs.out], (by first | rfl | exact congrArg (Value.int .i64) HJs.out), ⟨by rw [HOs.out]; exact Kd.N_below HN.out hbq⟩, ⟨Kd.R_below HP.out hbq⟩, ⟨bb_ HX.out hbq⟩, ⟨bp_ HB.out hbq⟩⟩
      case' inr.inl =>
       rw [if_pos hok] at HOs0
       have HOs := Aside0.mk HOs0
       clear HOs0 hok
       have b1 : (Go.bits .and .i64 own used != 0) = false := by rw [hbz]; rfl
       have b2 : (Go.bits .and .i64 own used == 0) = true := by rw [hbz]; rfl
       have h0 := decide_eq_false (show ¬ (0 : Int) < (list.length : Int) by omega)
       have h0n := decide_eq_false (show ¬ 0 < list.length by omega)
       clear hl0
       go_wp2_with fail
       go_quiet (fail)
       go_wp2_with fail
      case' inr.inr.inl =>
       rw [if_pos hok] at HOs0
       have HOs := Aside0.mk HOs0
       clear HOs0 hok
       have b1 : (Go.bits .and .i64 own used != 0) = false := by rw [hbz]; rfl
       have b2 : (Go.bits .and .i64 own used == 0) = true := by rw [hbz]; rfl
       obtain ⟨adL, eL, k3⟩ := Kd.at_int (Kd.C_below (Kd.F_now HF.out) HB.out) (m : Int) (by omega) (by omega)
       subst eL
       obtain ⟨ad21, e21, k1⟩ := Kd.at_int (Kd.C_below HSh.out HB.out) (list.length : Int) (by omega) (by have := HD.out; omega)
       obtain ⟨ad22, e22, k2⟩ := Kd.at_int (Kd.C_below HSh.out HB.out) (m : Int) (by omega) (by have := HD.out; omega)
       injection e21 with e21
       injection e22 with e22
       subst e21 e22
       rw [Int.toNat_natCast] at k1 k2 k3
       rw [HSH.out] at k1 h1
       have h0 := decide_eq_true (show (0 : Int) < (list.length : Int) by omega)
       have h0n := decide_eq_true (show 0 < list.length by omega)
       have w1_ := eq_true (show (m : Int) < (ships.length : Int) by have := HD.out; omega)
       have w2_ := eq_true (show m < ships.length by have := HD.out; omega)
       have w3_ := eq_true (show (m : Int) < (list.length : Int) by omega)
       have w4_ := eq_true (show m < list.length by omega)
       have w5_ := eq_true (show (0 : Int) ≤ (m : Int) by omega)
       have hn1 : wrap64 ((list.length : Int) - 1) = (m : Int) := by have := HS3.out; have := HD.out; unfold wrap64; omega
       clear hm
       generalize rd ships (m : Int) = s2 at *
       generalize rd list (m : Int) = lx at *
       have h1b : (sh == s2) = false := beq_eq_false_iff_ne.mpr h1
       go_wp2_with fail
       go_quiet (fail)
       go_wp2_with fail
       clear h1 h1b
      case' inr.inr.inr.inr =>
       rw [if_pos hok] at HOs0
       have HOs := Aside0.mk HOs0
       clear HOs0 hok
       have b1 : (Go.bits .and .i64 own used != 0) = false := by rw [hbz]; rfl
       have b2 : (Go.bits .and .i64 own used == 0) = true := by rw [hbz]; rfl
       obtain ⟨adL, eL, k3⟩ := Kd.at_int (Kd.C_below (Kd.F_now HF.out) HB.out) (m : Int) (by omega) (by omega)
       subst eL
       obtain ⟨ad21, e21, k1⟩ := Kd.at_int (Kd.C_below HSh.out HB.out) (list.length : Int) (by omega) (by have := HD.out; omega)
       obtain ⟨ad22, e22, k2⟩ := Kd.at_int (Kd.C_below HSh.out HB.out) (m : Int) (by omega) (by have := HD.out; omega)
       injection e21 with e21
       injection e22 with e22
       subst e21 e22
       rw [Int.toNat_natCast] at k1 k2 k3
       rw [HSH.out] at k1 h1
       have h0 := decide_eq_true (show (0 : Int) < (list.length : Int) by omega)
       have h0n := decide_eq_true (show 0 < list.length by omega)
       have w1_ := eq_true (show (m : Int) < (ships.length : Int) by have := HD.out; omega)
       have w2_ := eq_true (show m < ships.length by have := HD.out; omega)
       have w3_ := eq_true (show (m : Int) < (list.length : Int) by omega)
       have w4_ := eq_true (show m < list.length by omega)
       have w5_ := eq_true (show (0 : Int) ≤ (m : Int) by omega)
       have hn1 : wrap64 ((list.length : Int) - 1) = (m : Int) := by have := HS3.out; have := HD.out; unfold wrap64; omega
       clear hm
       generalize rd ships (m : Int) = s2 at *
       generalize rd list (m : Int) = lx at *
       subst h1
       have h1b := beq_self_eq_true sh
       have h2b := decide_eq_false h2
       have h2c := eq_false h2
       go_wp2_with fail
       go_quiet (fail)
       go_wp2_with fail
       clear h1b h2 h2b h2c
      all_goals
       (try clear b1 b2)
       (try clear h0 h0n)
       (try clear hn1)
       have hbq := bd1_ (pbN_ (Below.refl wr.heap.size wr) nq)
       have HXd := Aside0.mk (bb_ HX.out hbq)
       have HNd := Aside0.mk (Kd.N_below HN.out hbq)
       have HBd := Aside0.mk (bp_ HB.out hbq)
       have HPd := Aside0.mk (Kd.R_below HP.out hbq)
       have hjd := (hbq.cell (World.block_lt_of_cell? _ _ hxj)).trans hxj
       clear hbq hxj
       (try clear k1)
       (try clear k2)
       (try clear k3)
       clear HX HN HB HP hs0 hs1 hs2
       refine start_ (n := 21) (S := fun w' => w'.cell? ⟨g5, 0, none⟩ = some (.int .i64 (W0 : Int)) ∧ w'.cell? ⟨g5, 1, none⟩ = some (.int .i64 (H0 : Int)) ∧ w'.cell? ⟨g5, 2, none⟩ = some (.slice (some ad2) ships.length c2) ∧ w'.cell? (adj.add j) = some (.int .i64 own)) (ds := []) #[false, false, false, false, false, false, false, false, false, false, false, false, false, false, false, false, false, false, false, false, false] (by kernel_rfl) rfl rfl ⟨(bc_ HXd.out 0).trans rfl, (bc_ HXd.out 1).trans rfl, (bc_ HXd.out 2).trans rfl, hjd⟩ (fun hHeld => ?_)
       refine with_tabW spec_l09Go.tab14 spec_l09Go.bits14 (fun HT_ HW_ => ?_)
       generalize hq_ : (wr.drewN nq).drew = wd_ at HXd HNd HBd HPd hjd hHeld ⊢
       clear hq_
       have HBr := Aside0.mk (Below.refl wd_.heap.size wd_)
       refine pure_ (i := 0) (N := some 98) (v := ?_) (a' := ?_) (flg_ 21 1) rfl rfl (any_of HT_.out (by kernel_rfl)) (fun _ _ _ h => h) (Or.inl ⟨by rfl, ?_⟩) ?_ ?_
       rotate_left; (· (intro w'; go_simp; with_reducible rfl)); rotate_left; (· (simp only [Act.put, sz_, s0_, s1_, i64_w, i32_w]; rfl))
       refine pure_ (i := 2) (N := some 100) (v := ?_) (a' := ?_) (flg_ 21 5) rfl rfl (any_of HT_.out (by kernel_rfl)) (fun _ _ _ h => h) (Or.inl ⟨by rfl, ?_⟩) ?_ ?_
       rotate_left; (· (intro w'; go_simp; with_reducible rfl)); rotate_left; (· (simp only [Act.put, sz_, s0_, s1_, i64_w, i32_w]; rfl))
       refine pure_ (i := 4) (N := some 102) (v := ?_) (a' := ?_) (flg_ 21 21) rfl rfl (any_of HT_.out (by kernel_rfl)) (fun _ _ _ h => h) (Or.inl ⟨by rfl, ?_⟩) ?_ ?_
       rotate_left; (· (intro w'; go_simp; with_reducible rfl)); rotate_left; (· (simp only [Act.put, sz_, s0_, s1_, i64_w, i32_w]; rfl))
       refine pure_ (i := 5) (N := some 103) (v := ?_) (a' := ?_) (flg_ 21 53) rfl rfl (any_of HT_.out (by kernel_rfl)) (fun _ _ _ h => h) (Or.inl ⟨by rfl, ?_⟩) ?_ ?_
       rotate_left; (· (intro w'; go_simp; with_reducible rfl)); rotate_left; (· (simp only [Act.put, sz_, s0_, s1_, i64_w, i32_w]; rfl))
       refine pure_ (i := 10) (N := some 108) (v := ?_) (a' := ?_) (flg_ 21 1077) rfl rfl (any_of HT_.out (by kernel_rfl)) (fun _ _ _ h => h) (Or.inl ⟨by rfl, ?_⟩) ?_ ?_
       rotate_left; (· (intro w'; go_simp; with_reducible rfl)); rotate_left; (· (simp only [Act.put, sz_, s0_, s1_, i64_w, i32_w]; rfl))
       refine pure_ (i := 11) (N := some 109) (v := ?_) (a' := ?_) (flg_ 21 3125) rfl rfl (any_of HT_.out (by kernel_rfl)) (fun _ _ _ h => h) (Or.inl ⟨by rfl, ?_⟩) ?_ ?_
       rotate_left; (· (intro w'; go_simp; with_reducible rfl)); rotate_left; (· (simp only [Act.put, sz_, s0_, s1_, i64_w, i32_w]; rfl))
       refine pure_ (i := 12) (N := some 110) (v := ?_) (a' := ?_) (flg_ 21 7221) rfl rfl (any_of HT_.out (by kernel_rfl)) (fun _ _ _ h => h) (Or.inl ⟨by rfl, ?_⟩) ?_ ?_
       rotate_left; (· (intro w'; go_simp; with_reducible rfl)); rotate_left; (· (simp only [Act.put, sz_, s0_, s1_, i64_w, i32_w]; rfl))
       refine pure_ (i := 16) (N := some 114) (v := ?_) (a' := ?_) (flg_ 21 72757) rfl rfl (any_of HT_.out (by kernel_rfl)) (fun _ _ _ h => h) (Or.inl ⟨by rfl, ?_⟩) ?_ ?_
       rotate_left; (· (intro w'; go_simp; with_reducible rfl)); rotate_left; (· (simp only [Act.put, sz_, s0_, s1_, i64_w, i32_w]; rfl))
       refine pure_ (i := 17) (N := some 115) (v := ?_) (a' := ?_) (flg_ 21 203829) rfl rfl (any_of HT_.out (by kernel_rfl)) (fun _ _ _ h => h) (Or.inl ⟨by rfl, ?_⟩) ?_ ?_
       rotate_left; (· (intro w'; go_simp; with_reducible rfl)); rotate_left; (· (simp only [Act.put, sz_, s0_, s1_, i64_w, i32_w]; rfl))
       refine take_ (i := 1) (N := some 99) (v := ?_) (a' := ?_) (flg_ 21 203831) rfl rfl (take_ofW HT_.out HW_.out (by kernel_rfl)) (fun _ _ _ h => h) (Or.inl ⟨by rfl, ?_⟩) hHeld ?_ ?_
       rotate_left; (· (rintro w' ⟨s0_, s1_, s2_, s3_⟩; go_simp; with_reducible rfl)); rotate_left; (· (simp only [Act.put, sz_, s0_, s1_, i64_w, i32_w]; rfl))
       refine pure_ (i := 6) (N := some 104) (v := ?_) (a' := ?_) (flg_ 21 203895) rfl rfl (any_of HT_.out (by kernel_rfl)) (fun _ _ _ h => h) (Or.inl ⟨by rfl, ?_⟩) ?_ ?_
       rotate_left; (· (intro w'; go_simp; with_reducible rfl)); rotate_left; (· (simp only [Act.put, sz_, s0_, s1_, i64_w, i32_w]; rfl))
       refine take_ (i := 7) (N := some 105) (v := ?_) (a' := ?_) (flg_ 21 204023) rfl rfl (take_ofW HT_.out HW_.out (by kernel_rfl)) (fun _ _ _ h => h) (Or.inl ⟨by rfl, ?_⟩) hHeld ?_ ?_
       rotate_left; (· (rintro w' ⟨s0_, s1_, s2_, s3_⟩; go_simp; with_reducible rfl)); rotate_left; (· (simp only [Act.put, sz_, s0_, s1_, i64_w, i32_w]; rfl))
       refine pure_ (i := 13) (N := some 111) (v := ?_) (a' := ?_) (flg_ 21 212215) rfl rfl (any_of HT_.out (by kernel_rfl)) (fun _ _ _ h => h) (Or.inl ⟨by rfl, ?_⟩) ?_ ?_
       rotate_left; (· (intro w'; go_simp; with_reducible rfl)); rotate_left; (· (simp only [Act.put, sz_, s0_, s1_, i64_w, i32_w]; rfl))
       refine take_ (i := 14) (N := some 112) (v := ?_) (a' := ?_) (flg_ 21 228599) rfl rfl (take_ofW HT_.out HW_.out (by kernel_rfl)) (fun _ _ _ h => h) (Or.inl ⟨by rfl, ?_⟩) hHeld ?_ ?_
       rotate_left; (· (rintro w' ⟨s0_, s1_, s2_, s3_⟩; go_simp; with_reducible rfl)); rotate_left; (· (simp only [Act.put, sz_, s0_, s1_, i64_w, i32_w]; rfl))
       refine pure_ (i := 15) (N := some 113) (v := ?_) (a' := ?_) (flg_ 21 261367) rfl rfl (any_of HT_.out (by kernel_rfl)) (fun _ _ _ h => h) (Or.inl ⟨by rfl, ?_⟩) ?_ ?_
       rotate_left; (· (intro w'; go_simp; with_reducible rfl)); rotate_left; (· (simp only [Act.put, sz_, s0_, s1_, i64_w, i32_w]; rfl))
       refine two_ (i := 3) (j := 8) (Ni := some 101) (Nj := some 106) (flg_ 21 261375) (flg_ 21 261623) rfl rfl rfl rfl (two_of HT_.out (by kernel_rfl)) (by decide) (by decide) (fun K hK => ?_) (fun K hK => ?_)
       focus
        refine goes_ Try.func29 (by kernel_rfl) rfl #[.slice _ list.length c] (by rfl) rfl rfl (by (try simp only [List.map_toArray, List.map_cons, List.map_nil]); first | done | rfl) ?_
        refine (spec_l01Own.calls _ c list list _ (Kd.C_below (Kd.C_below (Kd.F_now HF.out) HBd.out) HBr.out) HLc.out HOwn.out).mono ?_
        rintro e wk_ ⟨v101, rfl, ho, hb⟩
        refine ⟨_, rfl, ?_⟩
        have HV := Aside0.mk (Kd.R_lower ho (bz_ HBr.out))
        clear ho
        have nB_ := Aside0.mk (bp_ HBr.out hb)
        clear hb HBr
        have HBr := nB_
        clear nB_
        refine hK.out _ _ ⟨(bc_ (bb_ HXd.out HBr.out) 0).trans rfl, (bc_ (bb_ HXd.out HBr.out) 1).trans rfl, (bc_ (bb_ HXd.out HBr.out) 2).trans rfl, (HBr.out.cell (World.block_lt_of_cell? _ _ hjd)).trans hjd⟩ (fun hHeld => ?_)
        clear hK K
        refine norm_ (a' := ?_) ?_ ?_
        rotate_left
        ·show Act.put _ (some 101) _ = _
         simp only [Act.put, sz_, s0_, s1_, i64_w, i32_w]
         rfl
        refine one_ (i := 8) (N := some 106) (flg_ 21 261631) rfl rfl (one_of HT_.out (by kernel_rfl)) (by decide) (fun K hK => ?_)
        refine Kd.R_lit_step (Kd.int .i64) _ 2 ?hg (N := 106) ?hd (xs := ([own] : List Int)) (inner := [.int .i64 own]) (ok := fun _ => True) (okp := fun _ => True) ?hr ?hp (fun _ hk => hk) trivial (Below.refl _ _) (Nat.le_refl _) (by simp) ?_; (case hd => rfl); (case hg => rfl); (case hr => first | (go_simp; done) | (go_simp; rfl)); (case hp => exact (Reps.one (show Kd.M (Kd.int .i64) _ _ _ own [.int .i64 own] from rfl) (Reps.none _ _)))
        intro v106 wl_ ho hb hg_ hnew_
        clear hg_ hnew_
        have HY := Aside0.mk (Kd.R_lower ho (bz_ HBr.out))
        clear ho
        have nB_ := Aside0.mk (bp_ HBr.out hb)
        have nHV_ := Aside0.mk (Kd.R_below HV.out hb)
        clear hb HBr HV
        have HBr := nB_
        have HV := nHV_
        clear nB_ nHV_
        refine hK.out _ _ ⟨(bc_ (bb_ HXd.out HBr.out) 0).trans rfl, (bc_ (bb_ HXd.out HBr.out) 1).trans rfl, (bc_ (bb_ HXd.out HBr.out) 2).trans rfl, (HBr.out.cell (World.block_lt_of_cell? _ _ hjd)).trans hjd⟩ (fun hHeld => ?_)
        clear hK K
        refine norm_ (a' := ?_) ?_ ?_
        rotate_left
        ·show Act.put _ (some 106) _ = _
         simp only [Act.put, sz_, s0_, s1_, i64_w, i32_w]
         rfl
       rotate_left
       focus
        refine Kd.R_lit_step (Kd.int .i64) _ 2 ?hg (N := 106) ?hd (xs := ([own] : List Int)) (inner := [.int .i64 own]) (ok := fun _ => True) (okp := fun _ => True) ?hr ?hp (fun _ hk => hk) trivial (Below.refl _ _) (Nat.le_refl _) (by simp) ?_; (case hd => rfl); (case hg => rfl); (case hr => first | (go_simp; done) | (go_simp; rfl)); (case hp => exact (Reps.one (show Kd.M (Kd.int .i64) _ _ _ own [.int .i64 own] from rfl) (Reps.none _ _)))
        intro v106 wl_ ho hb hg_ hnew_
        clear hg_ hnew_
        have HY := Aside0.mk (Kd.R_lower ho (bz_ HBr.out))
        clear ho
        have nB_ := Aside0.mk (bp_ HBr.out hb)
        clear hb HBr
        have HBr := nB_
        clear nB_
        refine hK.out _ _ ⟨(bc_ (bb_ HXd.out HBr.out) 0).trans rfl, (bc_ (bb_ HXd.out HBr.out) 1).trans rfl, (bc_ (bb_ HXd.out HBr.out) 2).trans rfl, (HBr.out.cell (World.block_lt_of_cell? _ _ hjd)).trans hjd⟩ (fun hHeld => ?_)
        clear hK K
        refine norm_ (a' := ?_) ?_ ?_
        rotate_left
        ·show Act.put _ (some 106) _ = _
         simp only [Act.put, sz_, s0_, s1_, i64_w, i32_w]
         rfl
        refine one_ (i := 3) (N := some 101) (flg_ 21 261631) rfl rfl (one_of HT_.out (by kernel_rfl)) (by decide) (fun K hK => ?_)
        refine goes_ Try.func29 (by kernel_rfl) rfl #[.slice _ list.length c] (by rfl) rfl rfl (by (try simp only [List.map_toArray, List.map_cons, List.map_nil]); first | done | rfl) ?_
        refine (spec_l01Own.calls _ c list list _ (Kd.C_below (Kd.C_below (Kd.F_now HF.out) HBd.out) HBr.out) HLc.out HOwn.out).mono ?_
        rintro e wk_ ⟨v101, rfl, ho, hb⟩
        refine ⟨_, rfl, ?_⟩
        have HV := Aside0.mk (Kd.R_lower ho (bz_ HBr.out))
        clear ho
        have nB_ := Aside0.mk (bp_ HBr.out hb)
        have nHY_ := Aside0.mk (Kd.R_below HY.out hb)
        clear hb HBr HY
        have HBr := nB_
        have HY := nHY_
        clear nB_ nHY_
        refine hK.out _ _ ⟨(bc_ (bb_ HXd.out HBr.out) 0).trans rfl, (bc_ (bb_ HXd.out HBr.out) 1).trans rfl, (bc_ (bb_ HXd.out HBr.out) 2).trans rfl, (HBr.out.cell (World.block_lt_of_cell? _ _ hjd)).trans hjd⟩ (fun hHeld => ?_)
        clear hK K
        refine norm_ (a' := ?_) ?_ ?_
        rotate_left
        ·show Act.put _ (some 101) _ = _
         simp only [Act.put, sz_, s0_, s1_, i64_w, i32_w]
         rfl
       all_goals
        obtain ⟨A106, c106, e106⟩ := Kd.R_slice HY.out
        subst e106
        refine one_ (i := 9) (N := some 107) (flg_ 21 262143) rfl rfl (one_of HT_.out (by kernel_rfl)) (by decide) (fun K hK => ?_)
        refine Kd.R_append_rows_step (Kd.int .i64) (w0 := wd_) wd_.heap.size (by rfl) (.tmp 101) (.tmp 106) 22 2 (.int .i64 0) 8 rfl Try.underlying22 info2 rfl (by decide) (by omega) v101 list [own] _ _ _ (fun _ => True) (fun _ => False) rfl rfl HV.out (Kd.R_reads' HY.out).2.2 (fun _ _ h => h) (fun _ h => h.elim) (fun _ _ => trivial) HBr.out (bz_ HBr.out) HRoom.out ?_
        intro v107 wp_ ho hb hg hat
        have HA := Aside0.mk ho
        have nB_ := Aside0.mk hb
        clear ho hb hg hat HBr HV HY
        have HBr := nB_
        clear nB_
        obtain ⟨A107, c107, e107⟩ := Kd.R_slice HA.out
        subst e107
        refine hK.out _ _ ⟨(bc_ (bb_ HXd.out HBr.out) 0).trans rfl, (bc_ (bb_ HXd.out HBr.out) 1).trans rfl, (bc_ (bb_ HXd.out HBr.out) 2).trans rfl, (HBr.out.cell (World.block_lt_of_cell? _ _ hjd)).trans hjd⟩ (fun hHeld => ?_)
        clear hK K
        refine norm_ (a' := ?_) ?_ ?_
        rotate_left
        ·show Act.put _ (some 107) _ = _
         simp only [Act.put, sz_, s0_, s1_, i64_w, i32_w]
         rfl
        refine one_ (i := 18) (N := some 116) (flg_ 21 524287) rfl rfl (one_of HT_.out (by kernel_rfl)) (by decide) (fun K hK => ?_)
        refine goes_ Try.func16 (by kernel_rfl) rfl #[.agg #[.int .i64 (W0 : Int), .int .i64 (H0 : Int), .slice (some ad2) ships.length c2], .slice A107 (list ++ [own]).length c107, .int .i64 (Go.bits .or .i64 used own), .slice A3 T.length c3, .int .i64 rest] (by rfl) rfl rfl (by (try simp only [List.map_toArray, List.map_cons, List.map_nil]); first | done | rfl) ?_
        refine (HIH.out (list ++ [own]) (Go.bits .or .i64 used own) rest A107 c107 (fun k => wd_.heap.size ≤ k) wp_ HLen.out HIn.out HRest.out (Kd.F_mono (Kd.R_F (Kd.R_tight rfl HA.out)) (fun k hk => Kd.R_base HA.out k hk.symm)) (Kd.R_reads' HA.out).2.1 (Kd.C_below (Kd.C_below HT.out HBd.out) HBr.out) (Kd.C_below (Kd.C_below HSh.out HBd.out) HBr.out)).mono ?_
        rintro e wf_ ⟨v116, rfl, ho, hb⟩
        refine ⟨_, rfl, ?_⟩
        obtain ⟨A116, c116, e116⟩ := Kd.N_slice ho
        subst e116
        rw [HFv.out] at ho
        have HR := Aside0.mk (Kd.N_F (Kd.N_mono (ok' := fun k => wd_.heap.size ≤ k) ho (fun k hk => hk.elim id (fun h => Nat.le_trans (bz_ HBr.out) h))))
        have nB_ := Aside0.mk (bp_ HBr.out hb)
        clear ho hb HBr HA
        have HBr := nB_
        clear nB_
        refine hK.out _ _ ⟨(bc_ (bb_ HXd.out HBr.out) 0).trans rfl, (bc_ (bb_ HXd.out HBr.out) 1).trans rfl, (bc_ (bb_ HXd.out HBr.out) 2).trans rfl, (HBr.out.cell (World.block_lt_of_cell? _ _ hjd)).trans hjd⟩ (fun hHeld => ?_)
        clear hK K
        refine norm_ (a' := ?_) ?_ ?_
        rotate_left
        ·show Act.put _ (some 116) _ = _
         simp only [Act.put, sz_, s0_, s1_, i64_w, i32_w]
         rfl
        refine one_ (i := 19) (N := some 117) (flg_ 21 1048575) rfl rfl (one_of HT_.out (by kernel_rfl)) (by decide) (fun K hK => ?_)
        refine Kd.N_append_rows_step (Kd.slice 2 (Kd.int .i64)) (w0 := w) w.heap.size (by rfl) (.tmp 98) (.tmp 116) 37 22 (.slice none 0 0) 24 rfl Try.underlying37 info22 rfl (by decide) (by omega) (.slice A12 ol.length c12) ol fls A116 fls.length c116 (fun k => okL k ∨ w.heap.size ≤ k) (fun k => wd_.heap.size ≤ k) (by rfl) (by first | rfl | (rw [← HFv.out]; rfl)) (Kd.N_below HNd.out HBr.out) HR.out (fun k hk => ⟨.inr (Nat.le_trans (bz_ HBd.out) hk), fun e_ => by have := Kd.N_lt HNd.out k e_.symm; omega⟩) (fun k hk => .inr (Nat.le_trans (Nat.le_trans (bz_ HBd.out) (bz_ HBr.out)) hk)) (bp_ HBd.out HBr.out) (Nat.le_trans (bz_ HBd.out) (bz_ HBr.out)) HCap.out ?_
        intro v117 wg_ ho hb hg hat
        obtain ⟨A117, c117, e117⟩ := Kd.N_slice ho
        subst e117
        have HX := Aside0.mk ((hg.block _ (blk_lt (bb_ HXd.out HBr.out)) (Kd.N_ne (Kd.N_below HNd.out HBr.out) (bb_ HXd.out HBr.out) (by decide))).trans (bb_ HXd.out HBr.out))
        have HP := Aside0.mk (Kd.R_over' (e' := 22) (Kd.R_below HPd.out HBr.out) (Kd.N_typed (Kd.N_below HNd.out HBr.out)) (by decide) hg)
        have HN := Aside0.mk ho
        have HB := Aside0.mk hb
        clear ho hb hg hat HBr HR HXd HNd HBd HPd hjd
        obtain ⟨adk, ek, hxk⟩ := Kd.at_int (Kd.R_reads' HP.out).2.2 (j : Int) HJ0.out HJ1.out
        cases ek
        rw [Int.toNat_natCast, HRd.out] at hxk
        refine hK.out _ _ ⟨(bc_ HX.out 0).trans rfl, (bc_ HX.out 1).trans rfl, (bc_ HX.out 2).trans rfl, hxk⟩ (fun hHeld => ?_)
        clear hK K hxk
        refine norm_ (a' := ?_) ?_ ?_
        rotate_left
        ·show Act.put _ (some 117) _ = _
         simp only [Act.put, sz_, s0_, s1_, i64_w, i32_w]
         rfl
        refine pure_ (i := 20) (N := some 12) (v := ?_) (a' := ?_) (flg_ 21 2097151) rfl rfl (any_of HT_.out (by kernel_rfl)) (fun _ _ _ h => h) (Or.inl ⟨by rfl, ?_⟩) ?_ ?_
        rotate_left; (· (intro w'; go_simp; with_reducible rfl)); rotate_left; (· (simp only [Act.put, sz_, s0_, s1_, i64_w, i32_w]; rfl))
        refine done_ (done_of HT_.out (by kernel_rfl)) ?_
        go_wp2_with fail
        go_roundg (P.length - (j + 1))
        case measure => exact HJm.out
        case rel => exact ⟨j + 1, A117, c117, HJr.out, Nat.le_refl _, by rw [HOs.out, List.length_append], (by first | rfl | exact congrArg (Value.int .i64) HJs.out), ⟨by rw [HOs.out]; exact HN.out⟩, HP, HX, HB⟩
     ·have HE := Aside0.mk (show O P.length = ol by rw [← hol]; exact HOK.out j hj (by omega) (by rw [hol]; omega))
      have m1 := decide_eq_false hneg
      have m2 := eq_false hneg
      have m5 := decide_eq_false hml
      have m6 := eq_false hml
      go_wp2_with fail
      go_ret
      exact ⟨_, rfl, by rw [HE.out]; exact HN.out, HB.out⟩
   ·have hje : j = P.length := by omega
    subst hje
    have q1 := decide_eq_false (show ¬ (P.length : Int) < (P.length : Int) by omega)
    go_wp2_with fail
    go_ret
    exact ⟨_, rfl, HN.out, HB.out⟩

def spec_l09Go.f (a0_0 a0_1 : Int) (l0_2 l1 : List Int) (a2 : Int) (l3 : List S45) (a4 : Int) : Option (List (List Int)) := if (l1.length = 0 ∧ a2 = 0 ∧ a4 < 9223372036854775808) ∧ seaV a0_0 a0_1 l0_2 = true ∧ shotsIn l3 = true ∧ l3.length ≤ 1048576 then some (goFleets a0_0 a0_1 l0_2 l3 a4) else none
theorem spec_l09Go.calls (a0_0 a0_1 : Int) (A0_2 : Option Addr) (c0_2 : Nat) (l0_2 : List Int) (A1 : Option Addr) (c1 : Nat) (l1 : List Int) (a2 : Int) (A3 : Option Addr) (c3 : Nat) (l3 : List S45) (a4 : Int) (r : List (List Int)) (w : World) (hr0_2 : Kd.C (Kd.int .i64) w A0_2 l0_2.length l0_2) (hc0_2 : l0_2.length ≤ c0_2) (hr1 : Kd.C (Kd.int .i64) w A1 l1.length l1) (hc1 : l1.length ≤ c1) (hr3 : Kd.C k45 w A3 l3.length l3) (hc3 : l3.length ≤ c3) (h : spec_l09Go.f a0_0 a0_1 l0_2 l1 a2 l3 a4 = some r) :
  Calls Try.prog 16 #[.agg #[.int .i64 a0_0, .int .i64 a0_1, .slice A0_2 l0_2.length c0_2], .slice A1 l1.length c1, .int .i64 a2, .slice A3 l3.length c3, .int .i64 a4] w fun e w' => ∃ v0_ : Value, e = .returned (v0_) ∧ Kd.V (Kd.slice 2 (Kd.int .i64)) 22 w' w.heap.size (fun k_ => (w.heap.size ≤ k_)) v0_ r ∧ Below w.heap.size w w' := by
 unfold spec_l09Go.f at h
 split at h
 case isFalse => cases h
 rename_i hs
 obtain ⟨⟨h1, rfl, hm⟩, hs, hsi, hTl⟩ := hs
 have h1 : l1 = [] := List.eq_nil_of_length_eq_zero h1
 subst h1
 simp only [Option.some.injEq] at h
 obtain ⟨⟨W0, rfl, hw1, hw5⟩, ⟨H0, rfl, hh1, hh5⟩, hs1, hs3⟩ := seaV_nat hs
 have he := go_env (T := l3) ⟨hw1, hw5⟩ ⟨hh1, hh5⟩ l0_2 hs3 (sea_ships hs) hTl (shotsIn_sea hsi)
 unfold goFleets at h
 simp only [Int.toNat_natCast] at h
 refine (spec_l09Go.does W0 H0 l0_2 A0_2 c0_2 A3 c3 l3 hw5 hh5 hs3 hc0_2 hc3 he.1 he.2 l0_2.length [] 0 a4 A1 c1 (fun _ => False) w (by simp) InPl.nil hm (fun _ _ => ⟨rfl, Nat.zero_le _, fun hp => absurd hp (by simp)⟩) (Nat.zero_le _) hr3 hr0_2).mono ?_
 rintro e w' ⟨v, rfl, ho, hb⟩
 rw [h] at ho
 exact ⟨v, rfl, Kd.N_V (Kd.N_mono (ok' := fun k_ => w.heap.size ≤ k_) ho (fun k hk => hk.elim False.elim id)), hb⟩
def spec_l09Shares.f (a0_0 a0_1 : Int) (l0_2 : List Int) (l1 : List S45) : Option (List Int × Int) := if seaV a0_0 a0_1 l0_2 = true ∧ shotsIn l1 = true ∧ l1.length ≤ 1048576 then some (sharesV (a0_0.toNat * a0_1.toNat) (agreeing (fleetsOf a0_0 a0_1 l0_2) l1), ((agreeing (fleetsOf a0_0 a0_1 l0_2) l1).length : Int)) else none
theorem fnil_ (w : World) (ok : Nat → Prop) (A : Option Addr) : Kd.F (Kd.int .i64) w ok A 0 [] := fun _ _ => ⟨rfl, Nat.zero_le _, fun hp => absurd hp (by simp)⟩
theorem row_blk_ {W : World} {base go n co : Nat} {ok : Nat → Prop} {xs : List Int} (ho : Kd.R (Kd.int .i64) 2 W base ok (.slice (some ⟨go, 0, none⟩) n co) xs) (h : 0 < xs.length) : ∃ cells, W.heap[go]? = some (.cells cells 2 (0, 0)) := by
 obtain ⟨g, cap, e2, _, _, cells, hc⟩ := Kd.R_form ho h
 injection e2 with e3
 injection e3 with e3
 injection e3 with e3
 subst e3
 exact ⟨cells, hc⟩
theorem wrap_nat2_ {N : Nat} (h : N ≤ 25) : wrap64 (N : Int) = (N : Int) := by unfold wrap64; omega
def spec_l09Shares.T1 : Bool × List (List Nat × List Nat) := (true, [([], []), ([], []), ([], []), ([0, 1, 2], [0, 1, 2]), ([], []), ([4], [4]), ([], []), ([6], [6]), ([5, 7], [5, 7]), ([8, 8], [8]), ([3, 3, 0, 1, 2, 3], [3]), ([9, 10, 0, 1, 2, 3, 4, 5, 6, 7, 8, 9, 10], [9])])
def spec_l09Shares.B1 : List Nat := [0, 0, 0, 7, 0, 16, 0, 64, 240, 496, 15, 2047]
theorem spec_l09Shares.tab1 : rtab .any (opsOf Try.f30 1) = spec_l09Shares.T1 := by kernel_rfl
theorem spec_l09Shares.bits1 : waitsOk spec_l09Shares.T1.2 spec_l09Shares.B1 = true := by kernel_rfl
set_option maxHeartbeats 16000000 in
set_option maxRecDepth 100000 in
theorem spec_l09Shares.calls (a0_0 a0_1 : Int) (A2 : Option Addr) (c2 : Nat) (ships : List Int) (A3 : Option Addr) (c3 : Nat) (T : List S45) (r1 : List Int) (r2 : Int) (w : World) (hr0_2 : Kd.C (Kd.int .i64) w A2 ships.length ships) (hc0_2 : ships.length ≤ c2) (hr1 : Kd.C k45 w A3 T.length T) (hc1 : T.length ≤ c3) (h : spec_l09Shares.f a0_0 a0_1 ships T = some (r1, r2)) :
  Calls Try.prog 30 #[.agg #[.int .i64 a0_0, .int .i64 a0_1, .slice A2 ships.length c2], .slice A3 T.length c3] w fun e w' => ∃ v0_ : Value, e = .returned (.tuple #[v0_, .int .i64 r2]) ∧ Kd.R (Kd.int .i64) 2 w' w.heap.size (fun _ => True) v0_ r1 ∧ Below w.heap.size w w' := by
 unfold spec_l09Shares.f at h
 split at h
 case isFalse => cases h
 rename_i hs
 simp only [Option.some.injEq, Prod.mk.injEq] at h
 obtain ⟨hr1_, hr2_⟩ := h
 obtain ⟨hs, hsi, hTl⟩ := hs
 have hall := goFleets_all hs T
 obtain ⟨⟨W0, rfl, hw1, hw5⟩, ⟨H0, rfl, hh1, hh5⟩, hs1, hs3⟩ := seaV_nat hs
 have HW := Aside0.mk (And.intro hw1 hw5)
 have HH := Aside0.mk (And.intro hh1 hh5)
 have HSz := Aside0.mk (And.intro hs1 hs3)
 have HTs := Aside0.mk (shotsIn_sea hsi)
 have HT0 := Aside0.mk hr1
 have HTc := Aside0.mk hc1
 have HSh := Aside0.mk hr0_2
 have HC2 := Aside0.mk hc0_2
 have HEnv := Aside0.mk (go_env ⟨hw1, hw5⟩ ⟨hh1, hh5⟩ ships hs3 (sea_ships hs) T hTl (shotsIn_sea hsi))
 have HLen := Aside0.mk (show ([] : List Int).length + ships.length = ships.length by simp)
 have HNum := Aside0.mk (fleets_num ⟨hw1, hw5⟩ ⟨hh1, hh5⟩ hs3 (sea_ships hs) T)
 have hgl := goV_len W0 H0 ships T (fun j => placeOf_len hw5 hh5 ships j) ships.length [] 0 (-1)
 unfold goFleets fleetsOf at hall
 unfold fleetsOf at hr1_ hr2_
 simp only [Int.toNat_natCast] at hr1_ hr2_ hall
 replace hall : goV W0 H0 ships T ships.length [] 0 (-1) = agreeing (fleetsFrom W0 H0 ships ships.length []) T := hall
 obtain ⟨fls, hfls⟩ : ∃ fls, agreeing (fleetsFrom W0 H0 ships ships.length []) T = fls := ⟨_, rfl⟩
 rw [hfls] at hr1_ hr2_ hall HNum
 have HFlen := Aside0.mk (show fls.length ≤ 1000000 by rw [← hall]; exact Nat.le_trans hgl (Nat.le_trans (Nat.pow_le_pow_right (by omega) hs3) (by simp)))
 have HFl := Aside0.mk hall
 obtain ⟨N, hN⟩ : ∃ N, W0 * H0 = N := ⟨_, rfl⟩
 rw [hN] at hr1_ HNum
 have hN25 : N ≤ 25 := by rw [← hN]; exact cells_le hw5 hh5
 have HN25 := Aside0.mk hN25
 have HNp := Aside0.mk (show 0 < N by rw [← hN]; exact Nat.mul_pos (by omega) (by omega))
 have hwn : wrap64 ((W0 : Int) * (H0 : Int)) = (N : Int) := by rw [show (W0 : Int) * (H0 : Int) = (N : Int) by rw [← hN, Int.natCast_mul], wrap_nat2_ hN25]
 have HN0 := Aside0.mk (show (0 : Int) ≤ wrap64 ((W0 : Int) * (H0 : Int)) by rw [hwn]; exact Int.natCast_nonneg N)
 have HN8 := Aside0.mk (show (wrap64 ((W0 : Int) * (H0 : Int))).toNat * 8 ≤ 281474976710656 by rw [hwn, Int.toNat_natCast]; clear hwn; omega)
 have HNe := Aside0.mk (show (wrap64 ((W0 : Int) * (H0 : Int))).toNat = N by rw [hwn, Int.toNat_natCast])
 subst hr1_ hr2_
 have hu28 := Try.underlying28
 clear hr0_2 hc0_2 hr1 hc1 hs hsi hTl hw1 hw5 hh1 hh5 hs1 hs3 hN hN25 hwn hgl hall hfls
 go_enter Try.func30, Try.ntmps30
 go_wp2_with (first | ((with_reducible refine gate_dst (N := 2) rfl ?_); refine box_event ?hg (N := 2) ?hd (cs := #[.int .i64 (W0 : Int), .int .i64 (H0 : Int), .slice A2 ships.length c2]) (t := 28) ?hr ?_; (case hd => rfl); (case hg => rfl); (case hr => first | (go_simp; done) | (go_simp; rfl)); intro g2 hg2 w1 hbox hb; have H2 := Aside0.mk hbox; have HB := Aside0.mk hb; clear hbox hb hg2))
 have u2_ := Aside0.mk (bkd_ H2.out)
 have uB_ := Aside0.mk (bd1_ HB.out)
 clear H2 HB
 have H2 := u2_
 have HB := uB_
 clear u2_ uB_
 refine start_ (n := 12) (S := fun w' => w'.cell? ⟨g2, 0, none⟩ = some (.int .i64 (W0 : Int)) ∧ w'.cell? ⟨g2, 1, none⟩ = some (.int .i64 (H0 : Int)) ∧ w'.cell? ⟨g2, 2, none⟩ = some (.slice A2 ships.length c2)) (ds := []) #[false, false, false, false, false, false, false, false, false, false, false, false] (by kernel_rfl) rfl rfl ⟨(bc_ H2.out 0).trans rfl, (bc_ H2.out 1).trans rfl, (bc_ H2.out 2).trans rfl⟩ (fun hHeld => ?_)
 refine with_tabW spec_l09Shares.tab1 spec_l09Shares.bits1 (fun HT_ HW_ => ?_)
 generalize hq_ : w1.drew = wd_ at H2 HB hHeld ⊢
 clear hq_
 refine take_ (i := 0) (N := some 11) (v := ?_) (a' := ?_) (flg_ 12 1) rfl rfl (take_ofW HT_.out HW_.out (by kernel_rfl)) (fun _ _ _ h => h) (Or.inl ⟨by rfl, ?_⟩) hHeld ?_ ?_
 rotate_left; (· (rintro w' ⟨s0_, s1_, s2_⟩; go_simp; with_reducible rfl)); rotate_left; (· (simp only [Act.put, sz_, s0_, s1_, i64_w, i32_w]; rfl))
 refine pure_ (i := 2) (N := some 13) (v := ?_) (a' := ?_) (flg_ 12 5) rfl rfl (any_of HT_.out (by kernel_rfl)) (fun _ _ _ h => h) (Or.inl ⟨by rfl, ?_⟩) ?_ ?_
 rotate_left; (· (intro w'; go_simp; with_reducible rfl)); rotate_left; (· (simp only [Act.put, sz_, s0_, s1_, i64_w, i32_w]; rfl))
 refine pure_ (i := 4) (N := some 15) (v := ?_) (a' := ?_) (flg_ 12 21) rfl rfl (any_of HT_.out (by kernel_rfl)) (fun _ _ _ h => h) (Or.inl ⟨by rfl, ?_⟩) ?_ ?_
 rotate_left; (· (intro w'; go_simp; with_reducible rfl)); rotate_left; (· (simp only [Act.put, sz_, s0_, s1_, i64_w, i32_w]; rfl))
 refine take_ (i := 5) (N := some 16) (v := ?_) (a' := ?_) (flg_ 12 53) rfl rfl (take_ofW HT_.out HW_.out (by kernel_rfl)) (fun _ _ _ h => h) (Or.inl ⟨by rfl, ?_⟩) hHeld ?_ ?_
 rotate_left; (· (rintro w' ⟨s0_, s1_, s2_⟩; go_simp; with_reducible rfl)); rotate_left; (· (simp only [Act.put, sz_, s0_, s1_, i64_w, i32_w]; rfl))
 refine pure_ (i := 6) (N := some 17) (v := ?_) (a' := ?_) (flg_ 12 117) rfl rfl (any_of HT_.out (by kernel_rfl)) (fun _ _ _ h => h) (Or.inl ⟨by rfl, ?_⟩) ?_ ?_
 rotate_left; (· (intro w'; go_simp; with_reducible rfl)); rotate_left; (· (simp only [Act.put, sz_, s0_, s1_, i64_w, i32_w]; rfl))
 refine take_ (i := 7) (N := some 18) (v := ?_) (a' := ?_) (flg_ 12 245) rfl rfl (take_ofW HT_.out HW_.out (by kernel_rfl)) (fun _ _ _ h => h) (Or.inl ⟨by rfl, ?_⟩) hHeld ?_ ?_
 rotate_left; (· (rintro w' ⟨s0_, s1_, s2_⟩; go_simp; with_reducible rfl)); rotate_left; (· (simp only [Act.put, sz_, s0_, s1_, i64_w, i32_w]; rfl))
 refine pure_ (i := 8) (N := some 19) (v := ?_) (a' := ?_) (flg_ 12 501) rfl rfl (any_of HT_.out (by kernel_rfl)) (fun _ _ _ h => h) (Or.inl ⟨by rfl, ?_⟩) ?_ ?_
 rotate_left; (· (intro w'; go_simp; with_reducible rfl)); rotate_left; (· (simp only [Act.put, sz_, s0_, s1_, i64_w, i32_w]; rfl))
 refine two_ (i := 1) (j := 9) (Ni := some 12) (Nj := some 20) (flg_ 12 503) (flg_ 12 1013) rfl rfl rfl rfl (two_of HT_.out (by kernel_rfl)) (by decide) (by decide) (fun K hK => ?_) (fun K hK => ?_)
 focus
  refine Kd.R_lit_step (Kd.int .i64) _ 2 ?hg (N := 12) ?hd (xs := ([] : List Int)) (inner := []) (ok := fun _ => True) (okp := fun _ => True) ?hr ?hp (fun _ hk => hk) trivial (Below.refl _ _) (Nat.le_refl _) (by simp) ?_; (case hd => rfl); (case hg => rfl); (case hr => first | (go_simp; done) | (go_simp; rfl)); (case hp => exact Reps.none _ _)
  intro v12 wq1_ ho hb hg_ hnew_
  clear hg_ hnew_
  obtain ⟨A12, c12, e12⟩ := Kd.R_slice ho
  subst e12
  clear ho
  have u2_ := Aside0.mk (bb_ H2.out hb)
  have uB_ := Aside0.mk (bp_ HB.out hb)
  clear hb H2 HB
  have H2 := u2_
  have HB := uB_
  clear u2_ uB_
  refine hK.out _ _ ⟨(bc_ H2.out 0).trans rfl, (bc_ H2.out 1).trans rfl, (bc_ H2.out 2).trans rfl⟩ (fun hHeld => ?_)
  clear hK K
  refine norm_ (a' := ?_) ?_ ?_
  rotate_left
  ·show Act.put _ (some 12) _ = _
   simp only [Act.put, sz_, s0_, s1_, i64_w, i32_w]
   rfl
  refine two_ (i := 3) (j := 9) (Ni := some 14) (Nj := some 20) (flg_ 12 511) (flg_ 12 1015) rfl rfl rfl rfl (two_of HT_.out (by kernel_rfl)) (by decide) (by decide) (fun K hK => ?_) (fun K hK => ?_)
  focus
   refine goes_ Try.func16 (by kernel_rfl) rfl #[.agg #[.int .i64 (W0 : Int), .int .i64 (H0 : Int), .slice A2 ships.length c2], .slice A12 ([] : List Int).length c12, .int .i64 0, .slice A3 T.length c3, .int .i64 (-1)] (by rfl) rfl rfl (by (try simp only [List.map_toArray, List.map_cons, List.map_nil]); first | done | rfl) ?_
   refine (spec_l09Go.does W0 H0 ships A2 c2 A3 c3 T HW.out.2 HH.out.2 HSz.out.2 HC2.out HTc.out HEnv.out.1 HEnv.out.2 ships.length [] 0 (-1) A12 c12 (fun _ => False) wq1_ HLen.out InPl.nil (by omega) (fnil_ _ _ _) (Nat.zero_le _) (Kd.C_below HT0.out HB.out) (Kd.C_below HSh.out HB.out)).mono ?_
   rintro e wq2_ ⟨v14, rfl, ho, hb⟩
   obtain ⟨A14, c14, e14⟩ := Kd.N_slice ho
   subst e14
   rw [HFl.out] at ho ⊢
   refine ⟨_, rfl, ?_⟩
   have uL0_ := Aside0.mk (Kd.N_mono (ok' := fun _ => True) (Kd.N_lower ho (bz_ HB.out)) (fun _ _ => trivial))
   clear ho
   have u2_ := Aside0.mk (bb_ H2.out hb)
   have uB_ := Aside0.mk (bp_ HB.out hb)
   clear hb H2 HB
   have H2 := u2_
   have HB := uB_
   clear u2_ uB_
   have HL := uL0_
   clear uL0_
   refine hK.out _ _ ⟨(bc_ H2.out 0).trans rfl, (bc_ H2.out 1).trans rfl, (bc_ H2.out 2).trans rfl⟩ (fun hHeld => ?_)
   clear hK K
   refine norm_ (a' := ?_) ?_ ?_
   rotate_left
   ·show Act.put _ (some 14) _ = _
    simp only [Act.put, sz_, s0_, s1_, i64_w, i32_w]
    rfl
   refine pure_ (i := 10) (N := some 6) (v := ?_) (a' := ?_) (flg_ 12 1535) rfl rfl (any_of HT_.out (by kernel_rfl)) (fun _ _ _ h => h) (Or.inl ⟨by rfl, ?_⟩) ?_ ?_
   rotate_left; (· (intro w'; go_simp; with_reducible rfl)); rotate_left; (· (simp only [Act.put, sz_, s0_, s1_, i64_w, i32_w]; rfl))
   refine one_ (i := 9) (N := some 20) (flg_ 12 2047) rfl rfl (one_of HT_.out (by kernel_rfl)) (by decide) (fun K hK => ?_)
   refine Kd.R_make_step (Kd.int .i64) _ 2 (by rfl) (N := 20) rfl 22 _ _ rfl (wrap64 ((W0 : Int) * (H0 : Int))) rfl rfl Try.underlying22 (.int .i64 0) 8 info2 rfl (by decide) (by omega) 0 (ok := fun _ => True) (okp := fun _ => True) rfl (fun _ hk => hk) trivial HN0.out HN8.out (Below.refl _ _) (Nat.le_refl _) ?_
   intro v20 wq3_ ho hb hg_ hnew_
   clear hg_ hnew_
   rw [HNe.out, ← sharesV_nil] at ho
   obtain ⟨go, co, e20, hgo_, _, _⟩ := Kd.R_form ho (by rw [sharesV_len]; exact HNp.out)
   rw [sharesV_len] at e20
   subst e20
   have HZO := Aside0.mk (show w.heap.size ≤ go by have := bz_ HB.out; omega)
   have uO0_ := Aside0.mk (Kd.R_mono (ok' := fun k => k = go) (Kd.R_tight rfl (Kd.R_lower ho (bz_ HB.out))) (fun k hk => by injection hk))
   clear ho
   have uL0_ := Aside0.mk (Kd.N_mono (ok' := fun k => k ≠ go) (Kd.N_bound HL.out) (fun k hk e_ => by have := hk.2; omega))
   clear HL
   have HL := uL0_
   clear uL0_
   clear hgo_
   have u2_ := Aside0.mk (bb_ H2.out hb)
   have uB_ := Aside0.mk (bp_ HB.out hb)
   have uL_ := Aside0.mk (Kd.N_below HL.out hb)
   clear hb H2 HB HL
   have H2 := u2_
   have HB := uB_
   have HL := uL_
   clear u2_ uB_ uL_
   have HO := uO0_
   clear uO0_
   refine hK.out _ _ ⟨(bc_ H2.out 0).trans rfl, (bc_ H2.out 1).trans rfl, (bc_ H2.out 2).trans rfl⟩ (fun hHeld => ?_)
   clear hK K
   refine norm_ (a' := ?_) ?_ ?_
   rotate_left
   ·show Act.put _ (some 20) _ = _
    simp only [Act.put, sz_, s0_, s1_, i64_w, i32_w]
    rfl
   generalize wq3_ = wz_ at H2 HB HO HL hHeld ⊢
  rotate_left
  focus
   refine Kd.R_make_step (Kd.int .i64) _ 2 (by rfl) (N := 20) rfl 22 _ _ rfl (wrap64 ((W0 : Int) * (H0 : Int))) rfl rfl Try.underlying22 (.int .i64 0) 8 info2 rfl (by decide) (by omega) 0 (ok := fun _ => True) (okp := fun _ => True) rfl (fun _ hk => hk) trivial HN0.out HN8.out (Below.refl _ _) (Nat.le_refl _) ?_
   intro v20 wq4_ ho hb hg_ hnew_
   clear hg_ hnew_
   rw [HNe.out, ← sharesV_nil] at ho
   obtain ⟨go, co, e20, hgo_, _, _⟩ := Kd.R_form ho (by rw [sharesV_len]; exact HNp.out)
   rw [sharesV_len] at e20
   subst e20
   have HZO := Aside0.mk (show w.heap.size ≤ go by have := bz_ HB.out; omega)
   have uO0_ := Aside0.mk (Kd.R_mono (ok' := fun k => k = go) (Kd.R_tight rfl (Kd.R_lower ho (bz_ HB.out))) (fun k hk => by injection hk))
   clear ho
   clear hgo_
   have u2_ := Aside0.mk (bb_ H2.out hb)
   have uB_ := Aside0.mk (bp_ HB.out hb)
   clear hb H2 HB
   have H2 := u2_
   have HB := uB_
   clear u2_ uB_
   have HO := uO0_
   clear uO0_
   refine hK.out _ _ ⟨(bc_ H2.out 0).trans rfl, (bc_ H2.out 1).trans rfl, (bc_ H2.out 2).trans rfl⟩ (fun hHeld => ?_)
   clear hK K
   refine norm_ (a' := ?_) ?_ ?_
   rotate_left
   ·show Act.put _ (some 20) _ = _
    simp only [Act.put, sz_, s0_, s1_, i64_w, i32_w]
    rfl
   refine one_ (i := 3) (N := some 14) (flg_ 12 1023) rfl rfl (one_of HT_.out (by kernel_rfl)) (by decide) (fun K hK => ?_)
   refine goes_ Try.func16 (by kernel_rfl) rfl #[.agg #[.int .i64 (W0 : Int), .int .i64 (H0 : Int), .slice A2 ships.length c2], .slice A12 ([] : List Int).length c12, .int .i64 0, .slice A3 T.length c3, .int .i64 (-1)] (by rfl) rfl rfl (by (try simp only [List.map_toArray, List.map_cons, List.map_nil]); first | done | rfl) ?_
   refine (spec_l09Go.does W0 H0 ships A2 c2 A3 c3 T HW.out.2 HH.out.2 HSz.out.2 HC2.out HTc.out HEnv.out.1 HEnv.out.2 ships.length [] 0 (-1) A12 c12 (fun _ => False) wq4_ HLen.out InPl.nil (by omega) (fnil_ _ _ _) (Nat.zero_le _) (Kd.C_below HT0.out HB.out) (Kd.C_below HSh.out HB.out)).mono ?_
   rintro e wq5_ ⟨v14, rfl, ho, hb⟩
   obtain ⟨A14, c14, e14⟩ := Kd.N_slice ho
   subst e14
   rw [HFl.out] at ho ⊢
   refine ⟨_, rfl, ?_⟩
   have hlt := Kd.R_lt HO.out go rfl
   have uL0_ := Aside0.mk (Kd.N_mono (ok' := fun k => k ≠ go) (Kd.N_lower ho (bz_ HB.out)) (fun k hk e_ => by rcases hk with hk | hk; exact hk; omega))
   clear ho hlt
   have u2_ := Aside0.mk (bb_ H2.out hb)
   have uB_ := Aside0.mk (bp_ HB.out hb)
   have uO_ := Aside0.mk (Kd.R_below HO.out hb)
   clear hb H2 HB HO
   have H2 := u2_
   have HB := uB_
   have HO := uO_
   clear u2_ uB_ uO_
   have HL := uL0_
   clear uL0_
   refine hK.out _ _ ⟨(bc_ H2.out 0).trans rfl, (bc_ H2.out 1).trans rfl, (bc_ H2.out 2).trans rfl⟩ (fun hHeld => ?_)
   clear hK K
   refine norm_ (a' := ?_) ?_ ?_
   rotate_left
   ·show Act.put _ (some 14) _ = _
    simp only [Act.put, sz_, s0_, s1_, i64_w, i32_w]
    rfl
   refine pure_ (i := 10) (N := some 6) (v := ?_) (a' := ?_) (flg_ 12 2047) rfl rfl (any_of HT_.out (by kernel_rfl)) (fun _ _ _ h => h) (Or.inl ⟨by rfl, ?_⟩) ?_ ?_
   rotate_left; (· (intro w'; go_simp; with_reducible rfl)); rotate_left; (· (simp only [Act.put, sz_, s0_, s1_, i64_w, i32_w]; rfl))
   generalize wq5_ = wz_ at H2 HB HO HL hHeld ⊢
  rotate_left
 rotate_left 2
 focus
  refine Kd.R_make_step (Kd.int .i64) _ 2 (by rfl) (N := 20) rfl 22 _ _ rfl (wrap64 ((W0 : Int) * (H0 : Int))) rfl rfl Try.underlying22 (.int .i64 0) 8 info2 rfl (by decide) (by omega) 0 (ok := fun _ => True) (okp := fun _ => True) rfl (fun _ hk => hk) trivial HN0.out HN8.out (Below.refl _ _) (Nat.le_refl _) ?_
  intro v20 wq6_ ho hb hg_ hnew_
  clear hg_ hnew_
  rw [HNe.out, ← sharesV_nil] at ho
  obtain ⟨go, co, e20, hgo_, _, _⟩ := Kd.R_form ho (by rw [sharesV_len]; exact HNp.out)
  rw [sharesV_len] at e20
  subst e20
  have HZO := Aside0.mk (show w.heap.size ≤ go by have := bz_ HB.out; omega)
  have uO0_ := Aside0.mk (Kd.R_mono (ok' := fun k => k = go) (Kd.R_tight rfl (Kd.R_lower ho (bz_ HB.out))) (fun k hk => by injection hk))
  clear ho
  clear hgo_
  have u2_ := Aside0.mk (bb_ H2.out hb)
  have uB_ := Aside0.mk (bp_ HB.out hb)
  clear hb H2 HB
  have H2 := u2_
  have HB := uB_
  clear u2_ uB_
  have HO := uO0_
  clear uO0_
  refine hK.out _ _ ⟨(bc_ H2.out 0).trans rfl, (bc_ H2.out 1).trans rfl, (bc_ H2.out 2).trans rfl⟩ (fun hHeld => ?_)
  clear hK K
  refine norm_ (a' := ?_) ?_ ?_
  rotate_left
  ·show Act.put _ (some 20) _ = _
   simp only [Act.put, sz_, s0_, s1_, i64_w, i32_w]
   rfl
  refine one_ (i := 1) (N := some 12) (flg_ 12 1015) rfl rfl (one_of HT_.out (by kernel_rfl)) (by decide) (fun K hK => ?_)
  refine Kd.R_lit_step (Kd.int .i64) _ 2 ?hg (N := 12) ?hd (xs := ([] : List Int)) (inner := []) (ok := fun _ => True) (okp := fun _ => True) ?hr ?hp (fun _ hk => hk) trivial (Below.refl _ _) (Nat.le_refl _) (by simp) ?_; (case hd => rfl); (case hg => rfl); (case hr => first | (go_simp; done) | (go_simp; rfl)); (case hp => exact Reps.none _ _)
  intro v12 wq7_ ho hb hg_ hnew_
  clear hg_ hnew_
  obtain ⟨A12, c12, e12⟩ := Kd.R_slice ho
  subst e12
  clear ho
  have u2_ := Aside0.mk (bb_ H2.out hb)
  have uB_ := Aside0.mk (bp_ HB.out hb)
  have uO_ := Aside0.mk (Kd.R_below HO.out hb)
  clear hb H2 HB HO
  have H2 := u2_
  have HB := uB_
  have HO := uO_
  clear u2_ uB_ uO_
  refine hK.out _ _ ⟨(bc_ H2.out 0).trans rfl, (bc_ H2.out 1).trans rfl, (bc_ H2.out 2).trans rfl⟩ (fun hHeld => ?_)
  clear hK K
  refine norm_ (a' := ?_) ?_ ?_
  rotate_left
  ·show Act.put _ (some 12) _ = _
   simp only [Act.put, sz_, s0_, s1_, i64_w, i32_w]
   rfl
  refine one_ (i := 3) (N := some 14) (flg_ 12 1023) rfl rfl (one_of HT_.out (by kernel_rfl)) (by decide) (fun K hK => ?_)
  refine goes_ Try.func16 (by kernel_rfl) rfl #[.agg #[.int .i64 (W0 : Int), .int .i64 (H0 : Int), .slice A2 ships.length c2], .slice A12 ([] : List Int).length c12, .int .i64 0, .slice A3 T.length c3, .int .i64 (-1)] (by rfl) rfl rfl (by (try simp only [List.map_toArray, List.map_cons, List.map_nil]); first | done | rfl) ?_
  refine (spec_l09Go.does W0 H0 ships A2 c2 A3 c3 T HW.out.2 HH.out.2 HSz.out.2 HC2.out HTc.out HEnv.out.1 HEnv.out.2 ships.length [] 0 (-1) A12 c12 (fun _ => False) wq7_ HLen.out InPl.nil (by omega) (fnil_ _ _ _) (Nat.zero_le _) (Kd.C_below HT0.out HB.out) (Kd.C_below HSh.out HB.out)).mono ?_
  rintro e wq8_ ⟨v14, rfl, ho, hb⟩
  obtain ⟨A14, c14, e14⟩ := Kd.N_slice ho
  subst e14
  rw [HFl.out] at ho ⊢
  refine ⟨_, rfl, ?_⟩
  have hlt := Kd.R_lt HO.out go rfl
  have uL0_ := Aside0.mk (Kd.N_mono (ok' := fun k => k ≠ go) (Kd.N_lower ho (bz_ HB.out)) (fun k hk e_ => by rcases hk with hk | hk; exact hk; omega))
  clear ho hlt
  have u2_ := Aside0.mk (bb_ H2.out hb)
  have uB_ := Aside0.mk (bp_ HB.out hb)
  have uO_ := Aside0.mk (Kd.R_below HO.out hb)
  clear hb H2 HB HO
  have H2 := u2_
  have HB := uB_
  have HO := uO_
  clear u2_ uB_ uO_
  have HL := uL0_
  clear uL0_
  refine hK.out _ _ ⟨(bc_ H2.out 0).trans rfl, (bc_ H2.out 1).trans rfl, (bc_ H2.out 2).trans rfl⟩ (fun hHeld => ?_)
  clear hK K
  refine norm_ (a' := ?_) ?_ ?_
  rotate_left
  ·show Act.put _ (some 14) _ = _
   simp only [Act.put, sz_, s0_, s1_, i64_w, i32_w]
   rfl
  refine pure_ (i := 10) (N := some 6) (v := ?_) (a' := ?_) (flg_ 12 2047) rfl rfl (any_of HT_.out (by kernel_rfl)) (fun _ _ _ h => h) (Or.inl ⟨by rfl, ?_⟩) ?_ ?_
  rotate_left; (· (intro w'; go_simp; with_reducible rfl)); rotate_left; (· (simp only [Act.put, sz_, s0_, s1_, i64_w, i32_w]; rfl))
  generalize wq8_ = wz_ at H2 HB HO HL hHeld ⊢
 rotate_left
 all_goals
  refine pure_ (i := 11) (N := some 7) (v := ?_) (a' := ?_) (flg_ 12 4095) rfl rfl (any_of HT_.out (by kernel_rfl)) (fun _ _ _ h => h) (Or.inl ⟨by rfl, ?_⟩) ?_ ?_
  rotate_left; (· (intro w'; go_simp; with_reducible rfl)); rotate_left; (· (simp only [Act.put, sz_, s0_, s1_, i64_w, i32_w]; rfl))
  refine done_ (done_of HT_.out (by kernel_rfl)) ?_
  clear H2 hHeld
  (try go_wp2_with fail)
  go_loopg [8] fls.length (fun gg s8 wr => ∃ i : Nat, i ≤ fls.length ∧ fls.length - i ≤ gg ∧ s8 = .int .i64 i ∧ Aside0 (Kd.N (Kd.slice 2 (Kd.int .i64)) 22 wr w.heap.size (fun k => k ≠ go) (.slice A14 fls.length c14) fls) ∧ Aside0 (Kd.R (Kd.int .i64) 2 wr w.heap.size (fun k => k = go) (.slice (some ⟨go, 0, none⟩) N co) (sharesV N (fls.take i))) ∧ Aside0 (Below w.heap.size w wr))
  case atStart => exact ⟨0, Nat.zero_le _, Nat.le_refl _, rfl, HL, HO, HB⟩
  case round =>
   clear HL HO HB
   obtain ⟨i, hi, hgi, rfl, HL, HO, HB⟩ := hrel
   by_cases hlt : i < fls.length
   ·obtain ⟨ad, cl_, rfl, hcl_, hK_, hcc⟩ := Kd.C_get (Kd.N_reads' HL.out).2.2 [] (i : Int) (by omega) (by omega)
    obtain ⟨Ae, ce, rfl, hle, hCe⟩ := hK_
    have hxe := hcc 0 _ rfl
    obtain ⟨fe, hfe⟩ : ∃ fe, fls[i] = fe := ⟨_, rfl⟩
    rw [Int.toNat_natCast, List.getD_eq_getElem?_getD, List.getElem?_eq_getElem hlt, Option.getD_some, hfe] at hxe hle hCe
    rw [show (Kd.slice 2 (Kd.int .i64)).sz = 1 from rfl, Nat.mul_one, Nat.add_zero] at hxe
    obtain ⟨hfl, V, hV, hV2⟩ := HNum.out fe (by rw [← hfe]; exact List.getElem_mem hlt)
    obtain ⟨ks, hks⟩ := specSet_ev fe hfl
    have hks2 := hks ks (Nat.le_refl _)
    rw [hV] at hks2
    obtain ⟨kc, hkc⟩ := specCells_ev (V : Int)
    obtain ⟨cs, hcs⟩ : ∃ cs, chosenTo (bitIn (V : Int)) 25 = cs := ⟨_, rfl⟩
    have hkc2 := hkc kc (Nat.le_refl _)
    simp only [hcs] at hkc2
    have HStep := Aside0.mk (fun (j : Nat) (hj : j < cs.length) => show ∃ c : Nat, cs[j] = (c : Int) ∧ c < N ∧ (c : Int) ∉ cs.take j by subst hcs; exact chosen_step hV2 HN25.out hj)
    have HFin := Aside0.mk (show shareSome N (fls.take i) cs = sharesV N (fls.take (i + 1)) by
     rw [List.take_succ_eq_append_getElem hlt, hfe, ← shareSome_all (n := 25) _ _ HN25.out, hV, hcs])
    have hcs25 : cs.length ≤ 25 := by rw [← hcs]; exact chosenTo_le _ 25
    have HSet := Aside0.mk hks2
    have HCs := Aside0.mk hkc2
    have HCe := Aside0.mk hCe
    have HLe := Aside0.mk hle
    have HC25 := Aside0.mk hcs25
    have q1 := decide_eq_true (show (i : Int) < (fls.length : Int) by omega)
    have q2 := decide_eq_true hlt
    have q3 := eq_true (show (i : Int) < (fls.length : Int) by omega)
    have q4 := eq_true (show (0 : Int) ≤ (i : Int) by omega)
    have q5 := eq_true hlt
    have HIm := Aside0.mk (show fls.length - (i + 1) < gk by omega)
    have HIr := Aside0.mk (show i + 1 ≤ fls.length by omega)
    have HIs := Aside0.mk (show wrap64 ((i : Int) + 1) = ((i + 1 : Nat) : Int) from wrap_nat1 hlt (by have := HFlen.out; omega))
    have HDn := Aside0.mk (show (fls.take i).length ≤ 1000000 by rw [List.length_take]; have := HFlen.out; omega)
    clear hcc hcl_ hks hks2 hkc hkc2 hcs hcs25 hV hV2 hfl hfe hle hCe hi hgi hlt
    go_wp2_with (first | (go_at_call 17; refine (spec_l09Set.calls ks Ae ce fe (V : Int) _ HCe.out HLe.out HSet.out).mono ?_; rintro e w3 ⟨rfl, hd⟩; have hb := hd.below; clear hd; (try clear hxe); have vHL_ := Aside0.mk (Kd.N_below HL.out hb); have vHO_ := Aside0.mk (Kd.R_below HO.out hb); have vHB_ := Aside0.mk (bp_ HB.out hb); clear hb HL HO HB; have HL := vHL_; have HO := vHO_; have HB := vHB_; clear vHL_ vHO_ vHB_) | (go_at_call 45; refine (spec_l09Cells.calls kc (V : Int) cs _ HCs.out).mono ?_; rintro e w4 ⟨v32, rfl, ho, hb⟩; obtain ⟨Ac, cc, ec⟩ := Kd.R_slice ho; subst ec; have hlt := Kd.R_lt HO.out go rfl; have HC := Aside0.mk (Kd.R_lower (Kd.R_mono (ok' := fun k => k ≠ go) (Kd.R_bound ho) (fun k hk e_ => by have h1 := hk.2.1; omega)) (bz_ HB.out)); clear ho hlt; have vHL_ := Aside0.mk (Kd.N_below HL.out hb); have vHO_ := Aside0.mk (Kd.R_below HO.out hb); have vHB_ := Aside0.mk (bp_ HB.out hb); clear hb HL HO HB; have HL := vHL_; have HO := vHO_; have HB := vHB_; clear vHL_ vHO_ vHB_))
    (try clear hxe)
    clear q1 q2 q3 q4 q5
    go_loopg [10] cs.length (fun gg s10 wr => ∃ j : Nat, j ≤ cs.length ∧ cs.length - j ≤ gg ∧ s10 = .int .i64 j ∧ Aside0 (Kd.N (Kd.slice 2 (Kd.int .i64)) 22 wr w.heap.size (fun k => k ≠ go) (.slice (some ad) fls.length c14) fls) ∧ Aside0 (Kd.R (Kd.int .i64) 2 wr w.heap.size (fun k => k = go) (.slice (some ⟨go, 0, none⟩) N co) (shareSome N (fls.take i) (cs.take j))) ∧ Aside0 (Kd.R (Kd.int .i64) 2 wr w.heap.size (fun k => k ≠ go) (.slice Ac cs.length cc) cs) ∧ Aside0 (Below w.heap.size w wr))
    case atStart => exact ⟨0, Nat.zero_le _, Nat.le_refl _, rfl, HL, ⟨by rw [List.take_zero, shareSome_nil]; exact HO.out⟩, HC, HB⟩
    case round =>
     clear HL HO HC HB
     obtain ⟨j, hj, hgj, rfl, HL, HO, HC, HB⟩ := hrel
     by_cases hlt : j < cs.length
     ·obtain ⟨c, hc, hcN, hcn⟩ := HStep.out j hlt
      obtain ⟨adc, rfl, hxc⟩ := Kd.at_int (Kd.R_reads' HC.out).2.2 (j : Int) (by omega) (by omega)
      rw [Int.toNat_natCast, rd_get cs j hlt, hc] at hxc
      obtain ⟨ado, eo, hxo⟩ := Kd.at_int (Kd.R_reads' HO.out).2.2 (c : Int) (by omega) (by rw [shareSome_len]; omega)
      injection eo with eo
      subst eo
      rw [Int.toNat_natCast, shareSome_rd _ _ hcN hcn, add_at, Nat.zero_add] at hxo
      have hsb := shareAt_bound (fls.take i) c
      obtain ⟨cells_, hrb⟩ := row_blk_ HO.out (by rw [shareSome_len]; exact HNp.out)
      have hfR := bf_ hrb c
      obtain ⟨z, hz⟩ : ∃ z, shareAt (fls.take i) c + 1 = z := ⟨_, rfl⟩
      have HSv := Aside0.mk (show (shareSome N (fls.take i) (cs.take j)).set c z = shareSome N (fls.take i) (cs.take (j + 1)) by rw [← hz, shareSome_set _ _ hcN hcn, List.take_succ_eq_append_getElem hlt, hc])
      obtain ⟨sv, hsv⟩ : ∃ sv, shareAt (fls.take i) c = sv := ⟨_, rfl⟩
      rw [hsv] at hz hsb hxo
      have hwz : wrap64 (sv + 1) = z := by rw [← hz]; have := HDn.out; unfold wrap64; omega
      have p1 := decide_eq_true (show (j : Int) < (cs.length : Int) by omega)
      have p2 := decide_eq_true hlt
      have p3 := eq_true (show (j : Int) < (cs.length : Int) by omega)
      have p4 := eq_true (show (0 : Int) ≤ (j : Int) by omega)
      have p5 := eq_true hlt
      have p6 := eq_true (show (0 : Int) ≤ (c : Int) by omega)
      have p7 := eq_true (show (c : Int) < (N : Int) by omega)
      have p8 := eq_true hcN
      have HJm := Aside0.mk (show cs.length - (j + 1) < gk by omega)
      have HJr := Aside0.mk (show j + 1 ≤ cs.length by omega)
      have HJs := Aside0.mk (show wrap64 ((j : Int) + 1) = ((j + 1 : Nat) : Int) from wrap_one (a := j) (by have := HC25.out; omega))
      clear hsb hrb hz hsv hc hcn hcN hj hgj hlt
      go_wp2_with fail
      go_roundg (cs.length - (j + 1))
      case measure => exact HJm.out
      case rel => exact ⟨j + 1, HJr.out, Nat.le_refl _, (by first | rfl | exact congrArg (Value.int .i64) HJs.out), ⟨Kd.N_far (p := ⟨go, c, none⟩) HL.out (fun _ hk => hk) (.int .i64 z)⟩, ⟨by have vO_ := Kd.R_putn HO.out (c : Int) z; rw [Int.toNat_natCast, HSv.out] at vO_; exact vO_⟩, ⟨Kd.R_far (p := ⟨go, c, none⟩) HC.out (fun _ hk => hk) (.int .i64 z)⟩, ⟨bs_ HB.out HZO.out⟩⟩
     ·have hje : j = cs.length := by omega
      subst hje
      have p1 := decide_eq_false (show ¬ (cs.length : Int) < (cs.length : Int) by omega)
      go_wp2_with fail
      go_roundg (fls.length - (i + 1))
      case measure => exact HIm.out
      case rel => exact ⟨i + 1, HIr.out, Nat.le_refl _, (by first | rfl | exact congrArg (Value.int .i64) HIs.out), HL, ⟨by have := HO.out; rw [List.take_length, HFin.out] at this; exact this⟩, HB⟩
   ·have hie : i = fls.length := by omega
    subst hie
    have q1 := decide_eq_false (show ¬ (fls.length : Int) < (fls.length : Int) by omega)
    go_wp2_with fail
    go_ret2
    exact ⟨_, rfl, Kd.R_mono (by have := HO.out; rw [List.take_length] at this; exact this) (fun _ _ => trivial), HB.out⟩
def openTo (N j : Nat) : List Bool := (List.range N).map fun c => decide (c < j)
def openB (N : Nat) (T : List S45) : List Bool := (List.range N).map fun (c : Nat) => !(T.any fun x => x.f0 == (c : Int))
theorem openTo_len (N j : Nat) : (openTo N j).length = N := by simp [openTo]
theorem openB_len (N : Nat) (T : List S45) : (openB N T).length = N := by simp [openB]
theorem openTo_zero (N : Nat) : openTo N 0 = List.replicate N false := by
 refine List.ext_getElem (by simp [openTo]) (fun i h1 h2 => ?_)
 simp [openTo]
theorem openTo_all (N : Nat) : openTo N N = openB N [] := by
 unfold openTo openB
 refine List.map_congr_left (fun c h => ?_)
 have := List.mem_range.1 h
 simp [this]
theorem openTo_set {N j : Nat} (_h : j < N) : (openTo N j).set j true = openTo N (j + 1) := by
 refine List.ext_getElem (by simp [openTo]) (fun i h1 h2 => ?_)
 rw [List.getElem_set]
 by_cases e : j = i
 ·subst e
  simp [openTo]
 ·rw [if_neg e]
  simp only [openTo, List.getElem_map, List.getElem_range]
  exact decide_eq_decide.2 (by omega)
theorem openB_set {N c : Nat} (T : List S45) (x : S45) (hx : x.f0 = (c : Int)) : (openB N T).set c false = openB N (T ++ [x]) := by
 refine List.ext_getElem (by simp [openB]) (fun i h1 h2 => ?_)
 rw [List.getElem_set]
 simp only [openB, List.getElem_map, List.getElem_range, List.any_append, List.any_cons, List.any_nil, Bool.or_false, hx]
 by_cases e : c = i
 ·subst e
  simp
 ·rw [if_neg e, show ((c : Int) == (i : Int)) = false from beq_eq_false_iff_ne.mpr (by omega), Bool.or_false]
def shotsBelow (N : Nat) (T : List S45) : Bool := T.all fun x => decide (0 ≤ x.f0) && decide (x.f0 < (N : Int))
def spec_l09Open.f (a0_0 a0_1 : Int) (l0_2 : List Int) (l1 : List S45) : Option (List Bool) := if seaV a0_0 a0_1 l0_2 = true ∧ shotsBelow (a0_0.toNat * a0_1.toNat) l1 = true ∧ l1.length ≤ 1048576 then some (openB (a0_0.toNat * a0_1.toNat) l1) else none
theorem wrap_nat4_ {N : Nat} (h : N ≤ 25) : wrap64 (N : Int) = (N : Int) := by unfold wrap64; omega
theorem bool_blk_ {W : World} {base go n co : Nat} {ok : Nat → Prop} {xs : List Bool} (ho : Kd.R Kd.bool 4 W base ok (.slice (some ⟨go, 0, none⟩) n co) xs) (h : 0 < xs.length) : ∃ cells, W.heap[go]? = some (.cells cells 4 (0, 0)) := by
 obtain ⟨g, cap, e2, _, _, cells, hc⟩ := Kd.R_form ho h
 injection e2 with e3
 injection e3 with e3
 injection e3 with e3
 subst e3
 exact ⟨cells, hc⟩
set_option maxHeartbeats 8000000 in
set_option maxRecDepth 100000 in
theorem spec_l09Open.calls (a0_0 a0_1 : Int) (A2 : Option Addr) (c2 : Nat) (ships : List Int) (A3 : Option Addr) (c3 : Nat) (T : List S45) (r : List Bool) (w : World) (hr0_2 : Kd.C (Kd.int .i64) w A2 ships.length ships) (hc0_2 : ships.length ≤ c2) (hr1 : Kd.C k45 w A3 T.length T) (hc1 : T.length ≤ c3) (h : spec_l09Open.f a0_0 a0_1 ships T = some r) :
  Calls Try.prog 31 #[.agg #[.int .i64 a0_0, .int .i64 a0_1, .slice A2 ships.length c2], .slice A3 T.length c3] w fun e w' => ∃ v0_ : Value, e = .returned (v0_) ∧ Kd.R Kd.bool 4 w' w.heap.size (fun _ => True) v0_ r ∧ Below w.heap.size w w' := by
 unfold spec_l09Open.f at h
 split at h
 case isFalse => cases h
 rename_i hs
 obtain ⟨hs, hsb, hTl⟩ := hs
 obtain ⟨⟨W0, rfl, hw1, hw5⟩, ⟨H0, rfl, hh1, hh5⟩, hs1, hs3⟩ := seaV_nat hs
 simp only [Int.toNat_natCast, Option.some.injEq] at h hsb
 obtain ⟨N, hN⟩ : ∃ N, W0 * H0 = N := ⟨_, rfl⟩
 rw [hN] at h hsb
 subst h
 have HT := Aside0.mk hr1
 have HTc := Aside0.mk hc1
 have HTl := Aside0.mk hTl
 have HIn := Aside0.mk (fun (i : Nat) (hi : i < T.length) => show 0 ≤ T[i].f0 ∧ T[i].f0 < (N : Int) by
  have := List.all_eq_true.1 hsb _ (List.getElem_mem hi)
  simpa using this)
 have hN25 : N ≤ 25 := by rw [← hN]; exact Nat.mul_le_mul hw5 hh5
 have HN25 := Aside0.mk hN25
 have HNp := Aside0.mk (show 0 < N by rw [← hN]; exact Nat.mul_pos (by omega) (by omega))
 have hwn : wrap64 ((W0 : Int) * (H0 : Int)) = (N : Int) := by rw [show (W0 : Int) * (H0 : Int) = (N : Int) by rw [← hN, Int.natCast_mul], wrap_nat4_ hN25]
 have HN0 := Aside0.mk (show (0 : Int) ≤ wrap64 ((W0 : Int) * (H0 : Int)) by rw [hwn]; exact Int.natCast_nonneg N)
 have HN8 := Aside0.mk (show (wrap64 ((W0 : Int) * (H0 : Int))).toNat * 1 ≤ 281474976710656 by rw [hwn, Int.toNat_natCast]; clear hwn; omega)
 have HNe := Aside0.mk (show (wrap64 ((W0 : Int) * (H0 : Int))).toNat = N by rw [hwn, Int.toNat_natCast])
 have hu28 := Try.underlying28
 have hu93 := Try.underlying45
 clear hr0_2 hc0_2 hr1 hc1 hs hsb hTl hw1 hw5 hh1 hh5 hs1 hs3 hN hN25 hwn
 go_enter Try.func31, Try.ntmps31
 go_wp2_with (first | ((with_reducible refine gate_dst (N := 2) rfl ?_); refine box_event ?hg (N := 2) ?hd (cs := #[.int .i64 (W0 : Int), .int .i64 (H0 : Int), .slice A2 ships.length c2]) (t := 28) ?hr ?_; (case hd => rfl); (case hg => rfl); (case hr => first | (go_simp; done) | (go_simp; rfl)); intro g2 hg2 w1 hbox hb; have H2 := Aside0.mk hbox; have HB := Aside0.mk hb; clear hbox hb hg2; have s0_ := (bc_ H2.out 0).trans rfl; have s1_ := (bc_ H2.out 1).trans rfl) | ((with_reducible refine gate_dst (N := 13) rfl ?_); refine Kd.R_make Kd.bool _ 4 rfl (N := 13) rfl 55 _ _ rfl (wrap64 ((W0 : Int) * (H0 : Int))) rfl rfl Try.underlying55 (.bool false) 1 info4 rfl (by decide) (by omega) false (ok := fun _ => True) (okp := fun _ => True) rfl (fun _ hk => hk) trivial HN0.out HN8.out (Below.refl _ _) (Nat.le_refl _) ?_; intro v13 w2 ho hb hg_ hnew_; clear hg_ hnew_; rw [HNe.out, ← openTo_zero] at ho; obtain ⟨go, co, e13, hgo_, _, _⟩ := Kd.R_form ho (by rw [openTo_len]; exact HNp.out); rw [openTo_len] at e13; subst e13; have HZO := Aside0.mk (show w.heap.size ≤ go by have := bz_ HB.out; omega); have HO := Aside0.mk (Kd.R_mono (ok' := fun k => k = go) (Kd.R_tight rfl (Kd.R_lower ho (bz_ HB.out))) (fun k hk => by injection hk)); clear ho hgo_; (try clear s0_); (try clear s1_); have n_ := Aside0.mk (bp_ HB.out hb); clear hb HB H2; have HB := n_; clear n_))
 go_loopg [16] N (fun gg s16 wr => ∃ j : Nat, j ≤ N ∧ N - j ≤ gg ∧ s16 = .int .i64 j ∧ Aside0 (Kd.R Kd.bool 4 wr w.heap.size (fun k => k = go) (.slice (some ⟨go, 0, none⟩) N co) (openTo N j)) ∧ Aside0 (Below w.heap.size w wr))
 case atStart => exact ⟨0, Nat.zero_le _, Nat.le_refl _, rfl, HO, HB⟩
 case round =>
  clear HO HB
  obtain ⟨j, hj, hgj, rfl, HO, HB⟩ := hrel
  by_cases hlt : j < N
  ·obtain ⟨cells_, hrb⟩ := bool_blk_ HO.out (by rw [openTo_len]; exact HNp.out)
   have hfR := bf_ hrb j
   obtain ⟨ado, eo, hxo⟩ := Kd.at_bool (Kd.R_reads' HO.out).2.2 (j : Int) (by omega) (by rw [openTo_len]; omega)
   injection eo with eo
   subst eo
   rw [Int.toNat_natCast, add_at, Nat.zero_add] at hxo
   have HSv := Aside0.mk (openTo_set hlt)
   have q1 := decide_eq_true (show (j : Int) < (N : Int) by omega)
   have q2 := decide_eq_true hlt
   have q3 := eq_true (show (j : Int) < (N : Int) by omega)
   have q4 := eq_true (show (0 : Int) ≤ (j : Int) by omega)
   have q5 := eq_true hlt
   have HJm := Aside0.mk (show N - (j + 1) < gk by omega)
   have HJr := Aside0.mk (show j + 1 ≤ N by omega)
   have HJs := Aside0.mk (show wrap64 ((j : Int) + 1) = ((j + 1 : Nat) : Int) from wrap_one (a := j) (by have := HN25.out; omega))
   clear hrb hj hgj hlt
   go_wp2_with fail
   go_roundg (N - (j + 1))
   case measure => exact HJm.out
   case rel => exact ⟨j + 1, HJr.out, Nat.le_refl _, (by first | rfl | exact congrArg (Value.int .i64) HJs.out), ⟨by have vO_ := Kd.R_putn HO.out (j : Int) true; rw [Int.toNat_natCast, HSv.out] at vO_; exact vO_⟩, ⟨bs_ HB.out HZO.out⟩⟩
  ·have hje : j = N := by omega
   subst hje
   have q1 := decide_eq_false (show ¬ (j : Int) < (j : Int) by omega)
   have HO2 := Aside0.mk (show Kd.R Kd.bool 4 wr w.heap.size (fun k => k = go) (.slice (some ⟨go, 0, none⟩) j co) (openB j (T.take 0)) by rw [List.take_zero, ← openTo_all]; exact HO.out)
   clear HO
   go_wp2_with fail
   go_loopg [7] T.length (fun gg s7 wr => ∃ i : Nat, i ≤ T.length ∧ T.length - i ≤ gg ∧ s7 = .int .i64 i ∧ Aside0 (Kd.R Kd.bool 4 wr w.heap.size (fun k => k = go) (.slice (some ⟨go, 0, none⟩) j co) (openB j (T.take i))) ∧ Aside0 (Below w.heap.size w wr))
   case atStart => exact ⟨0, Nat.zero_le _, Nat.le_refl _, rfl, HO2, HB⟩
   case round =>
    clear HO2 HB q1
    obtain ⟨i, hi, hgi, rfl, HO, HB⟩ := hrel
    by_cases hlt : i < T.length
    ·obtain ⟨adT, rfl, hc1, hc2⟩ := at_T45 (Kd.C_below HT.out HB.out) (i : Int) (by omega) (by omega)
     rw [rd93_get T i hlt, Int.toNat_natCast] at hc1 hc2
     have hin := HIn.out i hlt
     have hset := openB_set (N := j) (T.take i) T[i] (c := T[i].f0.toNat) (by omega)
     rw [← List.take_succ_eq_append_getElem hlt] at hset
     generalize T[i] = x at hc1 hc2 hin hset
     obtain ⟨c, hc⟩ : ∃ c : Nat, x.f0 = (c : Int) := ⟨x.f0.toNat, by omega⟩
     rw [hc] at hc1 hin hset
     rw [Int.toNat_natCast] at hset
     obtain ⟨cells_, hrb⟩ := bool_blk_ HO.out (by rw [openB_len]; exact HNp.out)
     have hfR := bf_ hrb c
     obtain ⟨ado, eo, hxo⟩ := Kd.at_bool (Kd.R_reads' HO.out).2.2 (c : Int) hin.1 (by rw [openB_len]; exact hin.2)
     injection eo with eo
     subst eo
     rw [Int.toNat_natCast, add_at, Nat.zero_add] at hxo
     have HSv := Aside0.mk hset
     have q1 := decide_eq_true (show (i : Int) < (T.length : Int) by omega)
     have q2 := decide_eq_true hlt
     have q3 := eq_true (show (i : Int) < (T.length : Int) by omega)
     have q4 := eq_true (show (0 : Int) ≤ (i : Int) by omega)
     have q5 := eq_true hlt
     have p6 := eq_true hin.1
     have p7 := eq_true hin.2
     have p8 := eq_true (show c < j by omega)
     have HJm := Aside0.mk (show T.length - (i + 1) < gk by omega)
     have HJr := Aside0.mk (show i + 1 ≤ T.length by omega)
     have HJs := Aside0.mk (show wrap64 ((i : Int) + 1) = ((i + 1 : Nat) : Int) from wrap_nat1 hlt HTl.out)
     clear hrb hi hgi hlt hin hset hc
     go_wp2_with fail
     go_roundg (T.length - (i + 1))
     case measure => exact HJm.out
     case rel => exact ⟨i + 1, HJr.out, Nat.le_refl _, (by first | rfl | exact congrArg (Value.int .i64) HJs.out), ⟨by have vO_ := Kd.R_putn HO.out (c : Int) false; rw [Int.toNat_natCast, HSv.out] at vO_; exact vO_⟩, ⟨bs_ HB.out HZO.out⟩⟩
    ·have hie : i = T.length := by omega
     subst hie
     have q1 := decide_eq_false (show ¬ (T.length : Int) < (T.length : Int) by omega)
     go_wp2_with fail
     go_ret
     exact ⟨_, rfl, Kd.R_mono (by have := HO.out; rw [List.take_length] at this; exact this) (fun _ _ => trivial), HB.out⟩
mutual
def spec_l09Best.l0 : Nat → List Int → Int → List Bool → Int → Int → Option (Int)
 | 0, _, _, _, _, _ => none
 | k + 1, x5, x6, x7, x8, x9 => if x9 < (x7.length : Int) then (spec_l09Best.j1 k x5 x6 x7 x8 x9 (decide (x6 > 0))) else (spec_l09Best.j1 k x5 x6 x7 x8 x9 false)
def spec_l09Best.j1 : Nat → List Int → Int → List Bool → Int → Int → Bool → Option (Int)
 | 0, _, _, _, _, _, _ => none
 | k + 1, x5, x6, x7, x8, x9, x26 => if x26 = true then (if 0 ≤ x9 then (if x9 < (x7.length : Int) then (if rdOf false x7 x9 = true then (if x8 < 0 then (spec_l09Best.l0 k x5 x6 x7 x9 (wrap64 (x9 + 1))) else (if x9 < (x5.length : Int) then (if 0 ≤ x8 then (if x8 < (x5.length : Int) then (if (rd x5 x9) > (rd x5 x8) then (spec_l09Best.l0 k x5 x6 x7 x9 (wrap64 (x9 + 1))) else (spec_l09Best.l0 k x5 x6 x7 x8 (wrap64 (x9 + 1)))) else (none)) else (none)) else (none))) else (spec_l09Best.l0 k x5 x6 x7 x8 (wrap64 (x9 + 1)))) else (none)) else (none)) else (some x8)
end
def spec_l09Best.f (k : Nat) (a0_0 : Int) (a0_1 : Int) (l0_2 : List Int) (l1 : List (S45)) : Option (Int) := (spec_l09Shares.f a0_0 a0_1 l0_2 l1).bind fun bt198 => ((spec_l09Open.f a0_0 a0_1 l0_2 l1).bind fun t202 => (spec_l09Best.l0 k bt198.1 bt198.2 t202 (-1) 0))
set_option maxHeartbeats 8000000 in
set_option maxRecDepth 100000 in
theorem spec_l09Best.calls (k : Nat) (a0_0 : Int) (a0_1 : Int) (A0_2 : Option Addr) (c0_2 : Nat) (l0_2 : List Int) (A1 : Option Addr) (c1 : Nat) (l1 : List (S45)) (r : Int) (w : World) (hr0_2 : Kd.C (Kd.int .i64) w A0_2 l0_2.length l0_2) (hc0_2 : l0_2.length ≤ c0_2) (hr1 : Kd.C k45 w A1 l1.length l1) (hc1 : l1.length ≤ c1) (h : spec_l09Best.f k a0_0 a0_1 l0_2 l1 = some r) :
  Calls Try.prog 18 #[.agg #[.int .i64 a0_0, .int .i64 a0_1, .slice A0_2 l0_2.length c0_2], .slice A1 l1.length c1] w fun e w' => e = .returned (.int .i64 r) ∧ Below w.heap.size w w' := by
 have hu28 := Try.underlying28
 have HR0_2 := Aside0.mk hr0_2
 have HC0_2 := Aside0.mk hc0_2
 clear hr0_2 hc0_2
 have HR1 := Aside0.mk hr1
 have HC1 := Aside0.mk hc1
 clear hr1 hc1
 have HB := Aside0.mk (Below.refl w.heap.size w)
 have H : ((spec_l09Shares.f a0_0 a0_1 l0_2 l1).bind fun bt198 => ((spec_l09Open.f a0_0 a0_1 l0_2 l1).bind fun t202 => (spec_l09Best.l0 k bt198.1 bt198.2 t202 (-1) 0))) = some r := h
 clear h
 replace H := Option.bind_eq_some_iff.mp H
 obtain ⟨⟨t198, t201⟩, A30, H⟩ := H
 replace H : ((spec_l09Open.f a0_0 a0_1 l0_2 l1).bind fun t202 => (spec_l09Best.l0 k t198 t201 t202 (-1) 0)) = some r := H
 have A3 := Aside0.mk A30
 clear A30
 replace H := Option.bind_eq_some_iff.mp H
 obtain ⟨t202, A40, H⟩ := H
 replace H : (spec_l09Best.l0 k t198 t201 t202 (-1) 0) = some r := H
 have A4 := Aside0.mk A40
 clear A40
 have H' := Aside0.mk H
 clear H
 go_enter Try.func18, Try.ntmps18
 go_wp2_with (first | ((with_reducible refine gate_dst (N := 2) rfl ?_); refine box_event ?hg (N := 2) ?hd (cs := #[.int .i64 a0_0, .int .i64 a0_1, .slice A0_2 l0_2.length c0_2]) (t := 28) ?hr ?_; (case hd => rfl); (case hg => rfl); (case hr => first | (go_simp; done) | (go_simp; rfl)); intro gb197 hg w5 hbox hb; have n0_ := Aside0.mk (bp_ hb_ hb); have n1_ := Aside0.mk (hbox); have n2_ := Aside0.mk ((by rw [hg]; exact (bz_ hb_) : w.heap.size ≤ gb197)); have n3_ := Aside0.mk ((by rw [hg]; exact (bz_ hb_) : w.heap.size ≤ gb197)); clear HB; have HB := n0_; have BK197 := n1_; have GW197 := n2_; have GE197 := n3_; clear n0_ n1_ n2_ n3_; clear hb hbox hg; have hcz6_0 : w5.cell? ⟨gb197, 0, none⟩ = some (.int .i64 a0_0) := (bc_ BK197.out 0).trans rfl; have hcz6_1 : w5.cell? ⟨gb197, 1, none⟩ = some (.int .i64 a0_1) := (bc_ BK197.out 1).trans rfl; have hcz6_2 : w5.cell? ⟨gb197, 2, none⟩ = some (.slice A0_2 l0_2.length c0_2) := (bc_ BK197.out 2).trans rfl; have hfz6_0 := bf_ BK197.out 0; have hfz6_1 := bf_ BK197.out 1; have hfz6_2 := bf_ BK197.out 2) | (go_at_call 30; (with_reducible refine (spec_l09Shares.calls a0_0 a0_1 _ _ l0_2 _ _ l1 t198 t201 _ ?side1 ?side2 ?side3 ?side4 A3.out).mono ?_); (case side1 => repeat (first | exact (Kd.C_below HR0_2.out HB.out) | (with_reducible refine Kd.C_alloc ?_ _) | (with_reducible refine Kd.C_drewN ?_ _) | (with_reducible refine Kd.C_drew ?_))); (case side2 => exact HC0_2.out); (case side3 => repeat (first | exact (Kd.C_below HR1.out HB.out) | (with_reducible refine Kd.C_alloc ?_ _) | (with_reducible refine Kd.C_drewN ?_ _) | (with_reducible refine Kd.C_drew ?_))); (case side4 => exact HC1.out); rintro e w7 ⟨v199, rfl, ho0, hb⟩; have n0_ := Aside0.mk (Kd.R_lower ho0 (bz_ (by repeat (first | (with_reducible first | exact HB.out | apply ba_ | apply pbN_ | apply bd1_ | refine bs_ ?_ GE197.out) | exact HB.out)))); have n1_ := Aside0.mk (bb_ (g := gb197) (o := .cells #[.int .i64 a0_0, .int .i64 a0_1, .slice A0_2 l0_2.length c0_2] 28 (0, 0)) (by (with_reducible repeat (first | refine bN_ ?_ _ | refine bkd_ ?_ | refine bka_ ?_ _)); exact BK197.out) hb); have n2_ := Aside0.mk (bp_ (by repeat (first | (with_reducible first | exact HB.out | apply ba_ | apply pbN_ | apply bd1_ | refine bs_ ?_ GE197.out) | exact HB.out)) hb); clear BK197; clear HB; have HO200 := n0_; have BK197 := n1_; have HB := n2_; clear n0_ n1_ n2_; (try clear hb); (try clear hb2); (try clear hk); (try clear hi); (try clear ho0); have hcz8_0 : w7.cell? ⟨gb197, 0, none⟩ = some (.int .i64 a0_0) := (bc_ BK197.out 0).trans rfl; have hcz8_1 : w7.cell? ⟨gb197, 1, none⟩ = some (.int .i64 a0_1) := (bc_ BK197.out 1).trans rfl; have hcz8_2 : w7.cell? ⟨gb197, 2, none⟩ = some (.slice A0_2 l0_2.length c0_2) := (bc_ BK197.out 2).trans rfl; have hfz8_0 := bf_ BK197.out 0; have hfz8_1 := bf_ BK197.out 1; have hfz8_2 := bf_ BK197.out 2) | (go_at_call 31; (with_reducible refine (spec_l09Open.calls a0_0 a0_1 _ _ l0_2 _ _ l1 t202 _ ?side1 ?side2 ?side3 ?side4 A4.out).mono ?_); (case side1 => repeat (first | exact (Kd.C_below HR0_2.out HB.out) | (with_reducible refine Kd.C_alloc ?_ _) | (with_reducible refine Kd.C_drewN ?_ _) | (with_reducible refine Kd.C_drew ?_))); (case side2 => exact HC0_2.out); (case side3 => repeat (first | exact (Kd.C_below HR1.out HB.out) | (with_reducible refine Kd.C_alloc ?_ _) | (with_reducible refine Kd.C_drewN ?_ _) | (with_reducible refine Kd.C_drew ?_))); (case side4 => exact HC1.out); rintro e w9 ⟨v203, rfl, ho0, hb⟩; have n0_ := Aside0.mk (Kd.R_below (by (with_reducible repeat (first | apply Kd.R_alloc | apply Kd.R_drewN | apply Kd.R_drew)); exact HO200.out) hb); have n1_ := Aside0.mk (Kd.R_lower ho0 (bz_ (by repeat (first | (with_reducible first | exact HB.out | apply ba_ | apply pbN_ | apply bd1_ | refine bs_ ?_ GE197.out) | exact HB.out)))); have n2_ := Aside0.mk (bb_ (g := gb197) (o := .cells #[.int .i64 a0_0, .int .i64 a0_1, .slice A0_2 l0_2.length c0_2] 28 (0, 0)) (by (with_reducible repeat (first | refine bN_ ?_ _ | refine bkd_ ?_ | refine bka_ ?_ _)); exact BK197.out) hb); have n3_ := Aside0.mk (bp_ (by repeat (first | (with_reducible first | exact HB.out | apply ba_ | apply pbN_ | apply bd1_ | refine bs_ ?_ GE197.out) | exact HB.out)) hb); clear HO200; clear BK197; clear HB; have HO200 := n0_; have HO204 := n1_; have BK197 := n2_; have HB := n3_; clear n0_ n1_ n2_ n3_; (try clear hb); (try clear hb2); (try clear hk); (try clear hi); (try clear ho0)))
 repeat (go_quiet (first | ((with_reducible refine gate_dst (N := 2) rfl ?_); refine box_event ?hg (N := 2) ?hd (cs := #[.int .i64 a0_0, .int .i64 a0_1, .slice A0_2 l0_2.length c0_2]) (t := 28) ?hr ?_; (case hd => rfl); (case hg => rfl); (case hr => first | (go_simp; done) | (go_simp; rfl)); intro gb197 hg w5 hbox hb; have n0_ := Aside0.mk (bp_ hb_ hb); have n1_ := Aside0.mk (hbox); have n2_ := Aside0.mk ((by rw [hg]; exact (bz_ hb_) : w.heap.size ≤ gb197)); have n3_ := Aside0.mk ((by rw [hg]; exact (bz_ hb_) : w.heap.size ≤ gb197)); clear HB; have HB := n0_; have BK197 := n1_; have GW197 := n2_; have GE197 := n3_; clear n0_ n1_ n2_ n3_; clear hb hbox hg; have hcz6_0 : w5.cell? ⟨gb197, 0, none⟩ = some (.int .i64 a0_0) := (bc_ BK197.out 0).trans rfl; have hcz6_1 : w5.cell? ⟨gb197, 1, none⟩ = some (.int .i64 a0_1) := (bc_ BK197.out 1).trans rfl; have hcz6_2 : w5.cell? ⟨gb197, 2, none⟩ = some (.slice A0_2 l0_2.length c0_2) := (bc_ BK197.out 2).trans rfl; have hfz6_0 := bf_ BK197.out 0; have hfz6_1 := bf_ BK197.out 1; have hfz6_2 := bf_ BK197.out 2) | (go_at_call 30; (with_reducible refine (spec_l09Shares.calls a0_0 a0_1 _ _ l0_2 _ _ l1 t198 t201 _ ?side1 ?side2 ?side3 ?side4 A3.out).mono ?_); (case side1 => repeat (first | exact (Kd.C_below HR0_2.out HB.out) | (with_reducible refine Kd.C_alloc ?_ _) | (with_reducible refine Kd.C_drewN ?_ _) | (with_reducible refine Kd.C_drew ?_))); (case side2 => exact HC0_2.out); (case side3 => repeat (first | exact (Kd.C_below HR1.out HB.out) | (with_reducible refine Kd.C_alloc ?_ _) | (with_reducible refine Kd.C_drewN ?_ _) | (with_reducible refine Kd.C_drew ?_))); (case side4 => exact HC1.out); rintro e w7 ⟨v199, rfl, ho0, hb⟩; have n0_ := Aside0.mk (Kd.R_lower ho0 (bz_ (by repeat (first | (with_reducible first | exact HB.out | apply ba_ | apply pbN_ | apply bd1_ | refine bs_ ?_ GE197.out) | exact HB.out)))); have n1_ := Aside0.mk (bb_ (g := gb197) (o := .cells #[.int .i64 a0_0, .int .i64 a0_1, .slice A0_2 l0_2.length c0_2] 28 (0, 0)) (by (with_reducible repeat (first | refine bN_ ?_ _ | refine bkd_ ?_ | refine bka_ ?_ _)); exact BK197.out) hb); have n2_ := Aside0.mk (bp_ (by repeat (first | (with_reducible first | exact HB.out | apply ba_ | apply pbN_ | apply bd1_ | refine bs_ ?_ GE197.out) | exact HB.out)) hb); clear BK197; clear HB; have HO200 := n0_; have BK197 := n1_; have HB := n2_; clear n0_ n1_ n2_; (try clear hb); (try clear hb2); (try clear hk); (try clear hi); (try clear ho0); have hcz8_0 : w7.cell? ⟨gb197, 0, none⟩ = some (.int .i64 a0_0) := (bc_ BK197.out 0).trans rfl; have hcz8_1 : w7.cell? ⟨gb197, 1, none⟩ = some (.int .i64 a0_1) := (bc_ BK197.out 1).trans rfl; have hcz8_2 : w7.cell? ⟨gb197, 2, none⟩ = some (.slice A0_2 l0_2.length c0_2) := (bc_ BK197.out 2).trans rfl; have hfz8_0 := bf_ BK197.out 0; have hfz8_1 := bf_ BK197.out 1; have hfz8_2 := bf_ BK197.out 2) | (go_at_call 31; (with_reducible refine (spec_l09Open.calls a0_0 a0_1 _ _ l0_2 _ _ l1 t202 _ ?side1 ?side2 ?side3 ?side4 A4.out).mono ?_); (case side1 => repeat (first | exact (Kd.C_below HR0_2.out HB.out) | (with_reducible refine Kd.C_alloc ?_ _) | (with_reducible refine Kd.C_drewN ?_ _) | (with_reducible refine Kd.C_drew ?_))); (case side2 => exact HC0_2.out); (case side3 => repeat (first | exact (Kd.C_below HR1.out HB.out) | (with_reducible refine Kd.C_alloc ?_ _) | (with_reducible refine Kd.C_drewN ?_ _) | (with_reducible refine Kd.C_drew ?_))); (case side4 => exact HC1.out); rintro e w9 ⟨v203, rfl, ho0, hb⟩; have n0_ := Aside0.mk (Kd.R_below (by (with_reducible repeat (first | apply Kd.R_alloc | apply Kd.R_drewN | apply Kd.R_drew)); exact HO200.out) hb); have n1_ := Aside0.mk (Kd.R_lower ho0 (bz_ (by repeat (first | (with_reducible first | exact HB.out | apply ba_ | apply pbN_ | apply bd1_ | refine bs_ ?_ GE197.out) | exact HB.out)))); have n2_ := Aside0.mk (bb_ (g := gb197) (o := .cells #[.int .i64 a0_0, .int .i64 a0_1, .slice A0_2 l0_2.length c0_2] 28 (0, 0)) (by (with_reducible repeat (first | refine bN_ ?_ _ | refine bkd_ ?_ | refine bka_ ?_ _)); exact BK197.out) hb); have n3_ := Aside0.mk (bp_ (by repeat (first | (with_reducible first | exact HB.out | apply ba_ | apply pbN_ | apply bd1_ | refine bs_ ?_ GE197.out) | exact HB.out)) hb); clear HO200; clear BK197; clear HB; have HO200 := n0_; have HO204 := n1_; have BK197 := n2_; have HB := n3_; clear n0_ n1_ n2_ n3_; (try clear hb); (try clear hb2); (try clear hk); (try clear hi); (try clear ho0))); try go_wp2_with (first | ((with_reducible refine gate_dst (N := 2) rfl ?_); refine box_event ?hg (N := 2) ?hd (cs := #[.int .i64 a0_0, .int .i64 a0_1, .slice A0_2 l0_2.length c0_2]) (t := 28) ?hr ?_; (case hd => rfl); (case hg => rfl); (case hr => first | (go_simp; done) | (go_simp; rfl)); intro gb197 hg w5 hbox hb; have n0_ := Aside0.mk (bp_ hb_ hb); have n1_ := Aside0.mk (hbox); have n2_ := Aside0.mk ((by rw [hg]; exact (bz_ hb_) : w.heap.size ≤ gb197)); have n3_ := Aside0.mk ((by rw [hg]; exact (bz_ hb_) : w.heap.size ≤ gb197)); clear HB; have HB := n0_; have BK197 := n1_; have GW197 := n2_; have GE197 := n3_; clear n0_ n1_ n2_ n3_; clear hb hbox hg; have hcz6_0 : w5.cell? ⟨gb197, 0, none⟩ = some (.int .i64 a0_0) := (bc_ BK197.out 0).trans rfl; have hcz6_1 : w5.cell? ⟨gb197, 1, none⟩ = some (.int .i64 a0_1) := (bc_ BK197.out 1).trans rfl; have hcz6_2 : w5.cell? ⟨gb197, 2, none⟩ = some (.slice A0_2 l0_2.length c0_2) := (bc_ BK197.out 2).trans rfl; have hfz6_0 := bf_ BK197.out 0; have hfz6_1 := bf_ BK197.out 1; have hfz6_2 := bf_ BK197.out 2) | (go_at_call 30; (with_reducible refine (spec_l09Shares.calls a0_0 a0_1 _ _ l0_2 _ _ l1 t198 t201 _ ?side1 ?side2 ?side3 ?side4 A3.out).mono ?_); (case side1 => repeat (first | exact (Kd.C_below HR0_2.out HB.out) | (with_reducible refine Kd.C_alloc ?_ _) | (with_reducible refine Kd.C_drewN ?_ _) | (with_reducible refine Kd.C_drew ?_))); (case side2 => exact HC0_2.out); (case side3 => repeat (first | exact (Kd.C_below HR1.out HB.out) | (with_reducible refine Kd.C_alloc ?_ _) | (with_reducible refine Kd.C_drewN ?_ _) | (with_reducible refine Kd.C_drew ?_))); (case side4 => exact HC1.out); rintro e w7 ⟨v199, rfl, ho0, hb⟩; have n0_ := Aside0.mk (Kd.R_lower ho0 (bz_ (by repeat (first | (with_reducible first | exact HB.out | apply ba_ | apply pbN_ | apply bd1_ | refine bs_ ?_ GE197.out) | exact HB.out)))); have n1_ := Aside0.mk (bb_ (g := gb197) (o := .cells #[.int .i64 a0_0, .int .i64 a0_1, .slice A0_2 l0_2.length c0_2] 28 (0, 0)) (by (with_reducible repeat (first | refine bN_ ?_ _ | refine bkd_ ?_ | refine bka_ ?_ _)); exact BK197.out) hb); have n2_ := Aside0.mk (bp_ (by repeat (first | (with_reducible first | exact HB.out | apply ba_ | apply pbN_ | apply bd1_ | refine bs_ ?_ GE197.out) | exact HB.out)) hb); clear BK197; clear HB; have HO200 := n0_; have BK197 := n1_; have HB := n2_; clear n0_ n1_ n2_; (try clear hb); (try clear hb2); (try clear hk); (try clear hi); (try clear ho0); have hcz8_0 : w7.cell? ⟨gb197, 0, none⟩ = some (.int .i64 a0_0) := (bc_ BK197.out 0).trans rfl; have hcz8_1 : w7.cell? ⟨gb197, 1, none⟩ = some (.int .i64 a0_1) := (bc_ BK197.out 1).trans rfl; have hcz8_2 : w7.cell? ⟨gb197, 2, none⟩ = some (.slice A0_2 l0_2.length c0_2) := (bc_ BK197.out 2).trans rfl; have hfz8_0 := bf_ BK197.out 0; have hfz8_1 := bf_ BK197.out 1; have hfz8_2 := bf_ BK197.out 2) | (go_at_call 31; (with_reducible refine (spec_l09Open.calls a0_0 a0_1 _ _ l0_2 _ _ l1 t202 _ ?side1 ?side2 ?side3 ?side4 A4.out).mono ?_); (case side1 => repeat (first | exact (Kd.C_below HR0_2.out HB.out) | (with_reducible refine Kd.C_alloc ?_ _) | (with_reducible refine Kd.C_drewN ?_ _) | (with_reducible refine Kd.C_drew ?_))); (case side2 => exact HC0_2.out); (case side3 => repeat (first | exact (Kd.C_below HR1.out HB.out) | (with_reducible refine Kd.C_alloc ?_ _) | (with_reducible refine Kd.C_drewN ?_ _) | (with_reducible refine Kd.C_drew ?_))); (case side4 => exact HC1.out); rintro e w9 ⟨v203, rfl, ho0, hb⟩; have n0_ := Aside0.mk (Kd.R_below (by (with_reducible repeat (first | apply Kd.R_alloc | apply Kd.R_drewN | apply Kd.R_drew)); exact HO200.out) hb); have n1_ := Aside0.mk (Kd.R_lower ho0 (bz_ (by repeat (first | (with_reducible first | exact HB.out | apply ba_ | apply pbN_ | apply bd1_ | refine bs_ ?_ GE197.out) | exact HB.out)))); have n2_ := Aside0.mk (bb_ (g := gb197) (o := .cells #[.int .i64 a0_0, .int .i64 a0_1, .slice A0_2 l0_2.length c0_2] 28 (0, 0)) (by (with_reducible repeat (first | refine bN_ ?_ _ | refine bkd_ ?_ | refine bka_ ?_ _)); exact BK197.out) hb); have n3_ := Aside0.mk (bp_ (by repeat (first | (with_reducible first | exact HB.out | apply ba_ | apply pbN_ | apply bd1_ | refine bs_ ?_ GE197.out) | exact HB.out)) hb); clear HO200; clear BK197; clear HB; have HO200 := n0_; have HO204 := n1_; have BK197 := n2_; have HB := n3_; clear n0_ n1_ n2_ n3_; (try clear hb); (try clear hb2); (try clear hk); (try clear hi); (try clear ho0))))
 go_loopg [8, 9] k (fun kq v8 v9 w' => ∃ (x8_1 : Int) (x9_1 : Int), v8 = .int .i64 x8_1 ∧ v9 = .int .i64 x9_1 ∧ Aside0 (spec_l09Best.l0 kq t198 t201 t202 x8_1 x9_1 = some r) ∧ Aside0 (kq ≤ k) ∧ Aside0 (Kd.R (Kd.int .i64) 2 w' w.heap.size (fun _ => True) v199 t198) ∧ Aside0 (Kd.R Kd.bool 4 w' w.heap.size (fun _ => True) v203 t202) ∧ Aside0 (w'.heap[gb197]? = some (.cells #[.int .i64 a0_0, .int .i64 a0_1, (.slice A0_2 l0_2.length c0_2)] 28 (0, 0))) ∧ Aside0 (Below w.heap.size w w'))
 case atStart => exact ⟨((-1)), (0), (by first | rfl | (simp; done) | (simp [*]; done)), (by first | rfl | (simp; done) | (simp [*]; done)), H', ⟨Nat.le_refl _⟩, ⟨by (with_reducible repeat (first | apply Kd.R_alloc | apply Kd.R_drewN | apply Kd.R_drew)); exact HO200.out⟩, ⟨by (with_reducible repeat (first | apply Kd.R_alloc | apply Kd.R_drewN | apply Kd.R_drew)); exact HO204.out⟩, ⟨by (with_reducible repeat (first | refine bN_ ?_ _ | refine bkd_ ?_ | refine bka_ ?_ _)); exact BK197.out⟩, ⟨by repeat (first | (with_reducible first | exact HB.out | apply ba_ | apply pbN_ | apply bd1_ | refine bs_ ?_ GE197.out) | exact HB.out)⟩⟩
 case round =>
  clear H'
  (try clear c1); (try clear p2); (try clear hcz6_0); (try clear hcz6_1); (try clear hcz6_2); (try clear hcz8_0); (try clear hcz8_1); (try clear hcz8_2); (try clear hfz6_0); (try clear hfz6_1); (try clear hfz6_2); (try clear hfz8_0); (try clear hfz8_1); (try clear hfz8_2)
  obtain ⟨x8_1, x9_1, rfl, rfl, HA, HK1, HO_5, HO_7, BK197, HB⟩ := hrel
  cases gk with
  | zero => exact absurd HA.out (by simp [spec_l09Best.l0])
  | succ k1 =>
   have H := HA.out
   clear HA
   simp only [spec_l09Best.l0] at H
   have HC10 := Aside0.mk H
   clear H
   go_upto_region 4 with (fail)
   repeat (go_quiet (fail); go_upto_region 4 with (fail))
   go_cut [26] (fun v26 wc => ∃ (kq : Nat) (x26_9 : Bool), v26 = .bool x26_9 ∧ Aside0 (spec_l09Best.j1 kq t198 t201 t202 x8_1 x9_1 x26_9 = some r) ∧ Aside0 (kq ≤ k1) ∧ Aside0 (Kd.R (Kd.int .i64) 2 wc w.heap.size (fun _ => True) v199 t198) ∧ Aside0 (Kd.R Kd.bool 4 wc w.heap.size (fun _ => True) v203 t202) ∧ Aside0 (wc.heap[gb197]? = some (.cells #[.int .i64 a0_0, .int .i64 a0_1, (.slice A0_2 l0_2.length c0_2)] 28 (0, 0))) ∧ Aside0 (Below w.heap.size w wc))
   case first =>
    have H := HC10.out
    clear HC10
    by_cases c11 : x9_1 < (t202.length : Int)
    ·rw [if_pos c11] at H
     have c11b0 : decide (x9_1 < (t202.length : Int)) = true := decide_eq_true c11
     clear c11
     (first | rw [c11b0] | (simp only [i64_w, i32_w]; rw [c11b0]) | skip)
     have H' := Aside0.mk H
     clear H
     obtain ⟨Ao12, co12, eo12⟩ := Kd.R_slice HO_7.out
     subst eo12
     go_wp2
     repeat (go_quiet (fail); try go_wp2)
     go_meet
     case rel => exact ⟨_, (decide (t201 > 0)), (by first | rfl | (simp; done) | (simp [*]; done)), H', ⟨by have := HK1.out; first | omega | exact Nat.le_refl _⟩, ⟨by (with_reducible repeat (first | apply Kd.R_alloc | apply Kd.R_drewN | apply Kd.R_drew)); exact HO_5.out⟩, ⟨by (with_reducible repeat (first | apply Kd.R_alloc | apply Kd.R_drewN | apply Kd.R_drew)); exact HO_7.out⟩, ⟨by (with_reducible repeat (first | refine bN_ ?_ _ | refine bkd_ ?_ | refine bka_ ?_ _)); exact BK197.out⟩, ⟨by repeat (first | (with_reducible first | exact HB.out | apply ba_ | apply pbN_ | apply bd1_ | refine bs_ ?_ GE197.out) | exact HB.out)⟩⟩
    ·rw [if_neg c11] at H
     have c11b0 : decide (x9_1 < (t202.length : Int)) = false := decide_eq_false c11
     clear c11
     (first | rw [c11b0] | (simp only [i64_w, i32_w]; rw [c11b0]) | skip)
     have H' := Aside0.mk H
     clear H
     obtain ⟨Ao13, co13, eo13⟩ := Kd.R_slice HO_7.out
     subst eo13
     go_wp2
     repeat (go_quiet (fail); try go_wp2)
     go_meet
     case rel => exact ⟨_, (false), (by first | rfl | (simp; done) | (simp [*]; done)), H', ⟨by have := HK1.out; first | omega | exact Nat.le_refl _⟩, ⟨by (with_reducible repeat (first | apply Kd.R_alloc | apply Kd.R_drewN | apply Kd.R_drew)); exact HO_5.out⟩, ⟨by (with_reducible repeat (first | apply Kd.R_alloc | apply Kd.R_drewN | apply Kd.R_drew)); exact HO_7.out⟩, ⟨by (with_reducible repeat (first | refine bN_ ?_ _ | refine bkd_ ?_ | refine bka_ ?_ _)); exact BK197.out⟩, ⟨by repeat (first | (with_reducible first | exact HB.out | apply ba_ | apply pbN_ | apply bd1_ | refine bs_ ?_ GE197.out) | exact HB.out)⟩⟩
   case rest =>
    clear HC10
    (try clear c1); (try clear p2); (try clear c11); (try clear c11b0); (try clear hcz6_0); (try clear hcz6_1); (try clear hcz6_2); (try clear hcz8_0); (try clear hcz8_1); (try clear hcz8_2); (try clear hfz6_0); (try clear hfz6_1); (try clear hfz6_2); (try clear hfz8_0); (try clear hfz8_1); (try clear hfz8_2); (try clear p2)
    obtain ⟨kq, x26_9, rfl, HA, HJ9, HO_5, HO_7, BK197, HB⟩ := hcut
    cases kq with
    | zero => exact absurd HA.out (by simp [spec_l09Best.j1])
    | succ kj9 =>
     have H := HA.out
     clear HA
     simp only [spec_l09Best.j1] at H
     by_cases c14 : x26_9 = true
     ·subst c14
      have H1 : (if 0 ≤ x9_1 then (if x9_1 < (t202.length : Int) then (if rdOf false t202 x9_1 = true then (if x8_1 < 0 then (spec_l09Best.l0 kj9 t198 t201 t202 x9_1 (wrap64 (x9_1 + 1))) else (if x9_1 < (t198.length : Int) then (if 0 ≤ x8_1 then (if x8_1 < (t198.length : Int) then (if (rd t198 x9_1) > (rd t198 x8_1) then (spec_l09Best.l0 kj9 t198 t201 t202 x9_1 (wrap64 (x9_1 + 1))) else (spec_l09Best.l0 kj9 t198 t201 t202 x8_1 (wrap64 (x9_1 + 1)))) else (none)) else (none)) else (none))) else (spec_l09Best.l0 kj9 t198 t201 t202 x8_1 (wrap64 (x9_1 + 1)))) else (none)) else (none)) = some r := by rw [if_pos rfl] at H; exact H
      clear H
      have H := H1
      clear H1
      by_cases c15 : 0 ≤ x9_1
      ·rw [if_pos c15] at H
       have c15b0 : decide (0 ≤ x9_1) = true := decide_eq_true c15
       clear c15
       by_cases c16 : x9_1 < (t202.length : Int)
       ·rw [if_pos c16] at H
        have c16b0 : decide (x9_1 < (t202.length : Int)) = true := decide_eq_true c16
        clear c16
        obtain ⟨bq17, hbq17⟩ : ∃ b_ : Bool, b_ = (rdOf false t202 x9_1) := ⟨_, rfl⟩
        replace H : (if bq17 = true then (if x8_1 < 0 then (spec_l09Best.l0 kj9 t198 t201 t202 x9_1 (wrap64 (x9_1 + 1))) else (if x9_1 < (t198.length : Int) then (if 0 ≤ x8_1 then (if x8_1 < (t198.length : Int) then (if (rd t198 x9_1) > (rd t198 x8_1) then (spec_l09Best.l0 kj9 t198 t201 t202 x9_1 (wrap64 (x9_1 + 1))) else (spec_l09Best.l0 kj9 t198 t201 t202 x8_1 (wrap64 (x9_1 + 1)))) else (none)) else (none)) else (none))) else (spec_l09Best.l0 kj9 t198 t201 t202 x8_1 (wrap64 (x9_1 + 1)))) = some r := by rw [← hbq17] at H; exact H
        have Nbq17 := Aside0.mk hbq17
        clear hbq17
        by_cases c18 : bq17 = true
        ·subst c18
         have H1 : (if x8_1 < 0 then (spec_l09Best.l0 kj9 t198 t201 t202 x9_1 (wrap64 (x9_1 + 1))) else (if x9_1 < (t198.length : Int) then (if 0 ≤ x8_1 then (if x8_1 < (t198.length : Int) then (if (rd t198 x9_1) > (rd t198 x8_1) then (spec_l09Best.l0 kj9 t198 t201 t202 x9_1 (wrap64 (x9_1 + 1))) else (spec_l09Best.l0 kj9 t198 t201 t202 x8_1 (wrap64 (x9_1 + 1)))) else (none)) else (none)) else (none))) = some r := by rw [if_pos rfl] at H; exact H
         clear H
         have H := H1
         clear H1
         by_cases c19 : x8_1 < 0
         ·rw [if_pos c19] at H
          have c19b0 : decide (x8_1 < 0) = true := decide_eq_true c19
          clear c19
          have H' := Aside0.mk H
          clear H
          obtain ⟨Ao20, co20, eo20⟩ := Kd.R_slice HO_7.out
          subst eo20
          have p205 : 0 ≤ (x9_1 : Int) := oda
          have q205 : x9_1 < (t202.length : Int) := oda
          obtain ⟨ad205, e205, hx205_0⟩ := Kd.at_bool (Kd.R_reads' HO_7.out).2.2 x9_1 p205 q205
          (try rw [← Nbq17.out] at hx205_0)
          cases e205
          replace p205 := eq_true p205
          replace q205 := eq_true q205
          go_wp2
          repeat (go_quiet (fail); try go_wp2)
          go_roundg kj9
          case measure => have := HK1.out; have := HJ9.out; omega
          case rel => exact ⟨(x9_1), (wrap64 (x9_1 + 1)), (by first | rfl | (simp; done) | (simp [*]; done)), (by first | rfl | (simp; done) | (simp [*]; done)), H', ⟨by have := HK1.out; have := HJ9.out; omega⟩, ⟨by (with_reducible repeat (first | apply Kd.R_alloc | apply Kd.R_drewN | apply Kd.R_drew)); exact HO_5.out⟩, ⟨by (with_reducible repeat (first | apply Kd.R_alloc | apply Kd.R_drewN | apply Kd.R_drew)); exact HO_7.out⟩, ⟨by (with_reducible repeat (first | refine bN_ ?_ _ | refine bkd_ ?_ | refine bka_ ?_ _)); exact BK197.out⟩, ⟨by repeat (first | (with_reducible first | exact HB.out | apply ba_ | apply pbN_ | apply bd1_ | refine bs_ ?_ GE197.out) | exact HB.out)⟩⟩
         ·rw [if_neg c19] at H
          have c19b0 : decide (x8_1 < 0) = false := decide_eq_false c19
          clear c19
          by_cases c21 : x9_1 < (t198.length : Int)
          ·rw [if_pos c21] at H
           have c21b0 : decide (x9_1 < (t198.length : Int)) = true := decide_eq_true c21
           clear c21
           by_cases c22 : 0 ≤ x8_1
           ·rw [if_pos c22] at H
            have c22b0 : decide (0 ≤ x8_1) = true := decide_eq_true c22
            clear c22
            by_cases c23 : x8_1 < (t198.length : Int)
            ·rw [if_pos c23] at H
             have c23b0 : decide (x8_1 < (t198.length : Int)) = true := decide_eq_true c23
             clear c23
             by_cases c24 : (rd t198 x9_1) > (rd t198 x8_1)
             ·rw [if_pos c24] at H
              have c24b0 : decide ((rd t198 x8_1) < (rd t198 x9_1)) = true := decide_eq_true c24
              clear c24
              have H' := Aside0.mk H
              clear H
              obtain ⟨Ao25, co25, eo25⟩ := Kd.R_slice HO_7.out
              subst eo25
              have p205 : 0 ≤ (x9_1 : Int) := oda
              have q205 : x9_1 < (t202.length : Int) := oda
              obtain ⟨ad205, e205, hx205_0⟩ := Kd.at_bool (Kd.R_reads' HO_7.out).2.2 x9_1 p205 q205
              (try rw [← Nbq17.out] at hx205_0)
              cases e205
              replace p205 := eq_true p205
              replace q205 := eq_true q205
              obtain ⟨Ao26, co26, eo26⟩ := Kd.R_slice HO_5.out
              subst eo26
              have p206 : 0 ≤ (x9_1 : Int) := oda
              have q206 : x9_1 < (t198.length : Int) := oda
              obtain ⟨ad206, e206, hx206_0⟩ := Kd.at_int (Kd.R_reads' HO_5.out).2.2 x9_1 p206 q206
              cases e206
              replace p206 := eq_true p206
              replace q206 := eq_true q206
              have p207 : 0 ≤ (x8_1 : Int) := oda
              have q207 : x8_1 < (t198.length : Int) := oda
              obtain ⟨ad207, e207, hx207_0⟩ := Kd.at_int (Kd.R_reads' HO_5.out).2.2 x8_1 p207 q207
              obtain rfl : ad206 = ad207 := (by injection e207)
              replace p207 := eq_true p207
              replace q207 := eq_true q207
              go_wp2
              repeat (go_quiet (fail); try go_wp2)
              go_roundg kj9
              case measure => have := HK1.out; have := HJ9.out; omega
              case rel => exact ⟨(x9_1), (wrap64 (x9_1 + 1)), (by first | rfl | (simp; done) | (simp [*]; done)), (by first | rfl | (simp; done) | (simp [*]; done)), H', ⟨by have := HK1.out; have := HJ9.out; omega⟩, ⟨by (with_reducible repeat (first | apply Kd.R_alloc | apply Kd.R_drewN | apply Kd.R_drew)); exact HO_5.out⟩, ⟨by (with_reducible repeat (first | apply Kd.R_alloc | apply Kd.R_drewN | apply Kd.R_drew)); exact HO_7.out⟩, ⟨by (with_reducible repeat (first | refine bN_ ?_ _ | refine bkd_ ?_ | refine bka_ ?_ _)); exact BK197.out⟩, ⟨by repeat (first | (with_reducible first | exact HB.out | apply ba_ | apply pbN_ | apply bd1_ | refine bs_ ?_ GE197.out) | exact HB.out)⟩⟩
             ·rw [if_neg c24] at H
              have c24b0 : decide ((rd t198 x8_1) < (rd t198 x9_1)) = false := decide_eq_false c24
              clear c24
              have H' := Aside0.mk H
              clear H
              obtain ⟨Ao27, co27, eo27⟩ := Kd.R_slice HO_7.out
              subst eo27
              have p205 : 0 ≤ (x9_1 : Int) := oda
              have q205 : x9_1 < (t202.length : Int) := oda
              obtain ⟨ad205, e205, hx205_0⟩ := Kd.at_bool (Kd.R_reads' HO_7.out).2.2 x9_1 p205 q205
              (try rw [← Nbq17.out] at hx205_0)
              cases e205
              replace p205 := eq_true p205
              replace q205 := eq_true q205
              obtain ⟨Ao28, co28, eo28⟩ := Kd.R_slice HO_5.out
              subst eo28
              have p206 : 0 ≤ (x9_1 : Int) := oda
              have q206 : x9_1 < (t198.length : Int) := oda
              obtain ⟨ad206, e206, hx206_0⟩ := Kd.at_int (Kd.R_reads' HO_5.out).2.2 x9_1 p206 q206
              cases e206
              replace p206 := eq_true p206
              replace q206 := eq_true q206
              have p207 : 0 ≤ (x8_1 : Int) := oda
              have q207 : x8_1 < (t198.length : Int) := oda
              obtain ⟨ad207, e207, hx207_0⟩ := Kd.at_int (Kd.R_reads' HO_5.out).2.2 x8_1 p207 q207
              obtain rfl : ad206 = ad207 := (by injection e207)
              replace p207 := eq_true p207
              replace q207 := eq_true q207
              go_wp2
              repeat (go_quiet (fail); try go_wp2)
              go_roundg kj9
              case measure => have := HK1.out; have := HJ9.out; omega
              case rel => exact ⟨(x8_1), (wrap64 (x9_1 + 1)), (by first | rfl | (simp; done) | (simp [*]; done)), (by first | rfl | (simp; done) | (simp [*]; done)), H', ⟨by have := HK1.out; have := HJ9.out; omega⟩, ⟨by (with_reducible repeat (first | apply Kd.R_alloc | apply Kd.R_drewN | apply Kd.R_drew)); exact HO_5.out⟩, ⟨by (with_reducible repeat (first | apply Kd.R_alloc | apply Kd.R_drewN | apply Kd.R_drew)); exact HO_7.out⟩, ⟨by (with_reducible repeat (first | refine bN_ ?_ _ | refine bkd_ ?_ | refine bka_ ?_ _)); exact BK197.out⟩, ⟨by repeat (first | (with_reducible first | exact HB.out | apply ba_ | apply pbN_ | apply bd1_ | refine bs_ ?_ GE197.out) | exact HB.out)⟩⟩
            ·rw [if_neg c23] at H
             exact absurd H (by simp)
           ·rw [if_neg c22] at H
            exact absurd H (by simp)
          ·rw [if_neg c21] at H
           exact absurd H (by simp)
        ·replace c18 := Bool.eq_false_iff.mpr c18
         subst c18
         have H1 : (spec_l09Best.l0 kj9 t198 t201 t202 x8_1 (wrap64 (x9_1 + 1))) = some r := by rw [if_neg (show ¬ (false = true) by decide)] at H; exact H
         clear H
         have H := H1
         clear H1
         have H' := Aside0.mk H
         clear H
         obtain ⟨Ao29, co29, eo29⟩ := Kd.R_slice HO_7.out
         subst eo29
         have p205 : 0 ≤ (x9_1 : Int) := oda
         have q205 : x9_1 < (t202.length : Int) := oda
         obtain ⟨ad205, e205, hx205_0⟩ := Kd.at_bool (Kd.R_reads' HO_7.out).2.2 x9_1 p205 q205
         (try rw [← Nbq17.out] at hx205_0)
         cases e205
         replace p205 := eq_true p205
         replace q205 := eq_true q205
         go_wp2
         repeat (go_quiet (fail); try go_wp2)
         go_roundg kj9
         case measure => have := HK1.out; have := HJ9.out; omega
         case rel => exact ⟨(x8_1), (wrap64 (x9_1 + 1)), (by first | rfl | (simp; done) | (simp [*]; done)), (by first | rfl | (simp; done) | (simp [*]; done)), H', ⟨by have := HK1.out; have := HJ9.out; omega⟩, ⟨by (with_reducible repeat (first | apply Kd.R_alloc | apply Kd.R_drewN | apply Kd.R_drew)); exact HO_5.out⟩, ⟨by (with_reducible repeat (first | apply Kd.R_alloc | apply Kd.R_drewN | apply Kd.R_drew)); exact HO_7.out⟩, ⟨by (with_reducible repeat (first | refine bN_ ?_ _ | refine bkd_ ?_ | refine bka_ ?_ _)); exact BK197.out⟩, ⟨by repeat (first | (with_reducible first | exact HB.out | apply ba_ | apply pbN_ | apply bd1_ | refine bs_ ?_ GE197.out) | exact HB.out)⟩⟩
       ·rw [if_neg c16] at H
        exact absurd H (by simp)
      ·rw [if_neg c15] at H
       exact absurd H (by simp)
     ·replace c14 := Bool.eq_false_iff.mpr c14
      subst c14
      have H1 : (some x8_1) = some r := by rw [if_neg (show ¬ (false = true) by decide)] at H; exact H
      clear H
      have H := H1
      clear H1
      obtain rfl := Option.some.inj H
      go_wp2
      repeat (go_quiet (fail); try go_wp2)
      go_ret
      exact ⟨by first | rfl | (simp [errW_none, errW_some] <;> rfl) | (simp [*, errW_none, errW_some] <;> rfl), by repeat (first | (with_reducible first | exact HB.out | apply ba_ | apply pbN_ | apply bd1_ | refine bs_ ?_ GE197.out) | exact HB.out)⟩
def PredS (g : Nat) (lb : Array Value) (p : S45 → Bool) (w : World) : Prop :=
 ∀ (W : World) (x : S45), Below w.heap.size w W → Calls Try.prog g (#[.agg #[.int .i64 x.f0, .int .i64 x.f1]] ++ lb) W fun e w' => e = .returned (.bool (p x)) ∧ Below W.heap.size W w'
theorem wrap_nat3_ {N : Nat} (h : N ≤ 25) : wrap64 (N : Int) = (N : Int) := by unfold wrap64; omega
set_option maxHeartbeats 4000000 in
set_option maxRecDepth 100000 in
theorem idxShot_calls (g : Nat) (lb : Array Value) (p : S45 → Bool) (eg : ∀ args w, (callFunc g args).run Try.prog w = .ok (.enter g args) w)
  (A0 : Option Addr) (c0 : Nat) (l0 : List S45) (w : World) (hp : PredS g lb p w) (hr0 : Kd.C k45 w A0 l0.length l0) (hm : l0.length ≤ 1048576) :
  Calls Try.prog 71 #[.slice A0 l0.length c0, .func (.func g) #[] lb] w fun e w' => e = .returned (.int .i64 (idxK p l0 0)) ∧ Below w.heap.size w w' := by
 have HP := Aside0.mk hp
 have HR := Aside0.mk hr0
 clear hp hr0
 go_enter Try.func71, Try.ntmps71
 go_wp2
 go_loopg [5, 8] l0.length (fun gg _ s8 wr => ∃ kk : Nat, kk ≤ l0.length ∧ l0.length - kk ≤ gg ∧ s8 = .int .i64 kk ∧ Aside0 (idxK p (l0.drop kk) kk = idxK p l0 0) ∧ Aside0 (Below w.heap.size w wr))
 case atStart => exact ⟨0, Nat.zero_le _, by omega, rfl, ⟨rfl⟩, ⟨Below.refl _ _⟩⟩
 case round =>
  obtain ⟨kk, hkk, hg, rfl, A, HB⟩ := hrel
  by_cases hlt : kk < l0.length
  ·have hltz : (kk : Int) < (l0.length : Int) := by omega
   obtain ⟨ad, rfl, hc1, hc2⟩ := at_T45 (Kd.C_below HR.out HB.out) (kk : Int) (by omega) hltz
   have hcall := HP.out wr (rd_T45 l0 (kk : Int)) HB.out
   have E := Aside0.mk (idxK_drop p l0 kk hlt)
   rw [← rd93_get l0 kk hlt] at E
   have hk0 : (0 : Int) ≤ (kk : Int) := by omega
   generalize rd_T45 l0 (kk : Int) = x at hc1 hc2 hcall E
   rw [Int.toNat_natCast] at hc1 hc2
   generalize p x = b at hcall E
   cases b with
   | true =>
    go_wp2_with (go_at_fn g; refine hcall.mono ?_; rintro e w' ⟨rfl, hb⟩)
    go_ret
    refine ⟨?_, below_then HB.out HB.out.size hb⟩
    rw [← A.out, E.out]; rfl
   | false =>
    go_wp2_with (go_at_fn g; refine hcall.mono ?_; rintro e w' ⟨rfl, hb⟩)
    go_roundg (l0.length - (kk + 1))
    case measure => omega
    case rel => exact ⟨kk + 1, by omega, by omega, by go_num, ⟨by rw [← A.out, E.out]; rfl⟩, ⟨below_then HB.out HB.out.size hb⟩⟩
  ·have hltz : ¬ (kk : Int) < (l0.length : Int) := by omega
   have : kk = l0.length := by omega
   subst this
   go_wp2
   go_ret
   refine ⟨?_, HB.out⟩
   rw [← A.out]; simp [idxK]
set_option maxHeartbeats 1000000 in
theorem conShot_calls (g : Nat) (lb : Array Value) (p : S45 → Bool) (eg : ∀ args w, (callFunc g args).run Try.prog w = .ok (.enter g args) w)
  (A0 : Option Addr) (c0 : Nat) (l0 : List S45) (w : World) (hp : PredS g lb p w) (hr0 : Kd.C k45 w A0 l0.length l0) (hm : l0.length ≤ 1048576) :
  Calls Try.prog 62 #[.slice A0 l0.length c0, .func (.func g) #[] lb] w fun e w' => e = .returned (.bool (l0.any p)) ∧ Below w.heap.size w w' := by
 have HI := idxShot_calls g lb p eg A0 c0 l0 w hp hr0 hm
 have HA := Aside0.mk (idxK_any p l0)
 clear hp hr0
 generalize idxK p l0 0 = ix at HI HA
 go_enter Try.func62, Try.ntmps62
 go_wp2_with (go_at_call 71; refine HI.mono ?_; rintro e w' ⟨rfl, hb⟩)
 go_ret
 exact ⟨by rw [← HA.out]; first | rfl | simp [ge_iff_le], hb⟩
set_option maxHeartbeats 1000000 in
theorem pred_cell {w : World} {g3 : Nat} {c : Int} (h : w.heap[g3]? = some (.cells #[.int .i64 c] 2 (0, 0))) : PredS 63 #[.pointer (some ⟨g3, 0, none⟩)] (fun x => x.f0 == c) w := by
 intro W x hb
 have HC := Aside0.mk (bb_ h hb)
 have HB := Aside0.mk (Below.refl W.heap.size W)
 clear h hb
 obtain ⟨b, hbb⟩ : ∃ b, (x.f0 == c) = b := ⟨_, rfl⟩
 have hu93 := Try.underlying45
 show Calls _ _ _ _ fun e w' => e = .returned (.bool (x.f0 == c)) ∧ _
 rw [hbb]
 go_enter Try.func63, Try.ntmps63
 go_wp2_with (first | ((with_reducible refine gate_dst (N := 2) rfl ?_); refine box_event ?hg (N := 2) ?hd (cs := #[.int .i64 x.f0, .int .i64 x.f1]) (t := 45) ?hr ?_; (case hd => rfl); (case hg => rfl); (case hr => first | (go_simp; done) | (go_simp; rfl)); intro g2 hg wb2 hbox hb; have HX := Aside0.mk hbox; have n_ := Aside0.mk (bb_ HC.out hb); clear HC; have HC := n_; clear n_; have n_ := Aside0.mk (bp_ HB.out hb); clear HB; have HB := n_; clear n_; clear hbox hb hg; have hx0 := (bc_ HX.out 0).trans rfl; have hx1 := (bc_ HX.out 1).trans rfl; have hc0 := (bc_ HC.out 0).trans rfl))
 go_ret
 exact ⟨by first | rfl | rw [hbb], HB.out⟩
set_option maxHeartbeats 4000000 in
set_option maxRecDepth 100000 in
theorem pred_open {w W0_ : World} {ga : Nat} {lba : Array Value} {q : Int → Prop} {acc : Int → Bool} {g4 g5 : Nat} {A3 : Option Addr} {c3 : Nat} {T : List S45} (hacc : (∀ args w, (callFunc ga args).run Try.prog w = .ok (.enter ga args) w) ∧ PredK Try.prog ga lba (Kd.int .i64) q acc w) (hB0 : Below w.heap.size w W0_)
  (h5 : W0_.heap[g5]? = some (.cells #[.func (.func ga) #[] lba] 68 (0, 0))) (h4 : W0_.heap[g4]? = some (.cells #[.slice A3 T.length c3] 39 (0, 0))) (hT : Kd.C k45 w A3 T.length T) (hTl : T.length ≤ 1048576) :
  PredK Try.prog 61 #[.pointer (some ⟨g5, 0, none⟩), .pointer (some ⟨g4, 0, none⟩)] (Kd.int .i64) q (fun c => acc c && !(T.any fun x => x.f0 == c)) W0_ := by
 intro W c v hq hK hb
 have hv : v = .int .i64 c := by have e : [v] = [.int .i64 c] := hK; injection e
 subst hv
 have eg116 : ∀ args w, (callFunc 63 args).run Try.prog w = .ok (.enter 63 args) w := enters_of Try.func63 (by kernel_rfl) rfl
 have HB := Aside0.mk (bp_ hB0 hb)
 have H5 := Aside0.mk (bb_ h5 hb)
 have H4 := Aside0.mk (bb_ h4 hb)
 have eg := hacc.1
 have HAcc := Aside0.mk hacc.2
 have HT := Aside0.mk hT
 have HTl := Aside0.mk hTl
 have HQ := Aside0.mk hq
 have HBW := Aside0.mk (show ∀ w' : World, Below w.heap.size w w' → W.heap.size ≤ w'.heap.size → True from fun _ _ _ => trivial)
 have HB0 := Aside0.mk (Below.refl W.heap.size W)
 clear hacc hB0 h5 h4 hT hTl hq hK hb HBW
 obtain ⟨ab, hab⟩ : ∃ ab, acc c = ab := ⟨_, rfl⟩
 obtain ⟨tb, htb⟩ : ∃ tb, (T.any fun x => x.f0 == c) = tb := ⟨_, rfl⟩
 show Calls _ _ _ _ fun e w' => e = .returned (.bool (acc c && !(T.any fun x => x.f0 == c))) ∧ _
 rw [htb, hab]
 have HAB := Aside0.mk hab
 have HTB := Aside0.mk htb
 clear hab htb
 cases ab with
 | false =>
  go_enter Try.func61, Try.ntmps61
  go_wp2_with (first | ((with_reducible refine gate_dst (N := 3) rfl ?_); refine box_event ?hg (N := 3) ?hd (cs := #[.int .i64 c]) (t := 2) ?hr ?_; (case hd => rfl); (case hg => rfl); (case hr => first | (go_simp; done) | (go_simp; rfl)); intro g3 hg wb3 hbox hb; have HX := Aside0.mk hbox; have n_ := Aside0.mk (bb_ H5.out hb); clear H5; have H5 := n_; clear n_; have n_ := Aside0.mk (bb_ H4.out hb); clear H4; have H4 := n_; clear n_; have n_ := Aside0.mk (bp_ HB.out hb); clear HB; have HB := n_; clear n_; have n_ := Aside0.mk (bp_ HB0.out hb); clear HB0; have HB0 := n_; clear n_; clear hbox hb hg; have h3_ := (bc_ HX.out 0).trans rfl; have h5_ := (bc_ H5.out 0).trans rfl; have h4_ := (bc_ H4.out 0).trans rfl) | (go_at_fn ga; have hc_ := HAcc.out _ c (.int .i64 c) HQ.out rfl HB.out; rw [HAB.out] at hc_; refine hc_.mono ?_; clear hc_; rintro e wa ⟨rfl, hb⟩; (try clear h3_); (try clear h4_); (try clear h5_); have n1_ := Aside0.mk (bb_ HX.out hb); have n2_ := Aside0.mk (bb_ H4.out hb); have n3_ := Aside0.mk (bp_ HB.out hb); have n4_ := Aside0.mk (bp_ HB0.out hb); clear hb HX H4 H5 HB HB0; have HX := n1_; have H4 := n2_; have HB := n3_; have HB0 := n4_; clear n1_ n2_ n3_ n4_; have h3_ := (bc_ HX.out 0).trans rfl; have h4_ := (bc_ H4.out 0).trans rfl))
  go_ret
  exact ⟨rfl, HB0.out⟩
 | true =>
  go_enter Try.func61, Try.ntmps61
  go_wp2_with (first | ((with_reducible refine gate_dst (N := 3) rfl ?_); refine box_event ?hg (N := 3) ?hd (cs := #[.int .i64 c]) (t := 2) ?hr ?_; (case hd => rfl); (case hg => rfl); (case hr => first | (go_simp; done) | (go_simp; rfl)); intro g3 hg wb3 hbox hb; have HX := Aside0.mk hbox; have n_ := Aside0.mk (bb_ H5.out hb); clear H5; have H5 := n_; clear n_; have n_ := Aside0.mk (bb_ H4.out hb); clear H4; have H4 := n_; clear n_; have n_ := Aside0.mk (bp_ HB.out hb); clear HB; have HB := n_; clear n_; have n_ := Aside0.mk (bp_ HB0.out hb); clear HB0; have HB0 := n_; clear n_; clear hbox hb hg; have h3_ := (bc_ HX.out 0).trans rfl; have h5_ := (bc_ H5.out 0).trans rfl; have h4_ := (bc_ H4.out 0).trans rfl) | (go_at_fn ga; have hc_ := HAcc.out _ c (.int .i64 c) HQ.out rfl HB.out; rw [HAB.out] at hc_; refine hc_.mono ?_; clear hc_; rintro e wa ⟨rfl, hb⟩; (try clear h3_); (try clear h4_); (try clear h5_); have n1_ := Aside0.mk (bb_ HX.out hb); have n2_ := Aside0.mk (bb_ H4.out hb); have n3_ := Aside0.mk (bp_ HB.out hb); have n4_ := Aside0.mk (bp_ HB0.out hb); clear hb HX H4 H5 HB HB0; have HX := n1_; have H4 := n2_; have HB := n3_; have HB0 := n4_; clear n1_ n2_ n3_ n4_; have h3_ := (bc_ HX.out 0).trans rfl; have h4_ := (bc_ H4.out 0).trans rfl) | (go_at_call 62; have hc_ := conShot_calls 63 #[.pointer (some ⟨g3, 0, none⟩)] (fun x => x.f0 == c) eg116 A3 c3 T _ (pred_cell HX.out) (Kd.C_below HT.out HB.out) HTl.out; rw [HTB.out] at hc_; refine hc_.mono ?_; clear hc_; rintro e wc ⟨rfl, hb⟩; (try clear h3_); (try clear h4_); (try clear h5_); have n3_ := Aside0.mk (bp_ HB0.out hb); clear hb HB0; have HB0 := n3_; clear n3_))
  go_ret
  exact ⟨rfl, HB0.out⟩
def openV (N : Nat) (T : List S45) (acc : Int → Bool) : List Int := chosenTo (fun c => acc c && !(T.any fun x => x.f0 == c)) N
set_option maxHeartbeats 4000000 in
set_option maxRecDepth 100000 in
theorem open_calls {W0 H0 N : Nat} (hN : W0 * H0 = N) (hN25 : N ≤ 25) {ga : Nat} {lba : Array Value} {q : Int → Prop} {acc : Int → Bool} (eg : ∀ args w, (callFunc ga args).run Try.prog w = .ok (.enter ga args) w) {w : World} (hacc : PredK Try.prog ga lba (Kd.int .i64) q acc w) (hq : ∀ x, 0 ≤ x → x < (N : Int) → q x)
  {A2 : Option Addr} {c2 : Nat} {ships : List Int} {A3 : Option Addr} {c3 : Nat} {T : List S45} (hs : Kd.C (Kd.int .i64) w A2 ships.length ships) (hsc : ships.length ≤ c2) (hT : Kd.C k45 w A3 T.length T) (hTl : T.length ≤ 1048576) :
  Calls Try.prog 40 #[.agg #[.int .i64 (W0 : Int), .int .i64 (H0 : Int), .slice A2 ships.length c2], .slice A3 T.length c3, .func (.func ga) #[] lba] w fun e w' => ∃ v0_ : Value, e = .returned v0_ ∧ Kd.R (Kd.int .i64) 2 w' w.heap.size (fun _ => True) v0_ (openV N T acc) ∧ Below w.heap.size w w' := by
 have eg114 : ∀ args w, (callFunc 61 args).run Try.prog w = .ok (.enter 61 args) w := enters_of Try.func61 (by kernel_rfl) rfl
 have HAcc := Aside0.mk (And.intro eg hacc)
 have HQ := Aside0.mk hq
 have HSh := Aside0.mk hs
 have HC2 := Aside0.mk hsc
 have HT := Aside0.mk hT
 have HTl := Aside0.mk hTl
 have HN17 := Aside0.mk (show (N : Int) ≤ 17592186044416 by omega)
 have HCel := Aside0.mk (show impl_Sea_cells.f (W0 : Int) (H0 : Int) ships = some (N : Int) by
  unfold impl_Sea_cells.f
  rw [show (W0 : Int) * (H0 : Int) = (N : Int) by rw [← hN, Int.natCast_mul], wrap_nat3_ hN25])
 have HB := Aside0.mk (Below.refl w.heap.size w)
 have hu28 := Try.underlying28
 clear hacc hq hs hsc hT hTl hN hN25
 go_enter Try.func40, Try.ntmps40
 go_wp2_with (first | ((with_reducible refine gate_dst (N := 3) rfl ?_); refine box_event ?hg (N := 3) ?hd (cs := #[.int .i64 (W0 : Int), .int .i64 (H0 : Int), .slice A2 ships.length c2]) (t := 28) ?hr ?_; (case hd => rfl); (case hg => rfl); (case hr => first | (go_simp; done) | (go_simp; rfl)); intro g3 hg wb3 hbox hb; have H3 := Aside0.mk hbox; have n_ := Aside0.mk (bp_ HB.out hb); clear HB; have HB := n_; clear n_; clear hbox hb hg; have s0_ := (bc_ H3.out 0).trans rfl; have s1_ := (bc_ H3.out 1).trans rfl; have s2_ := (bc_ H3.out 2).trans rfl) | ((with_reducible refine gate_dst (N := 4) rfl ?_); refine box_event ?hg (N := 4) ?hd (cs := #[.slice A3 T.length c3]) (t := 39) ?hr ?_; (case hd => rfl); (case hg => rfl); (case hr => first | (go_simp; done) | (go_simp; rfl)); intro g4 hg wb4 hbox hb; have H4 := Aside0.mk hbox; have n_ := Aside0.mk (bp_ HB.out hb); clear HB; have HB := n_; clear n_; have n_ := Aside0.mk (bb_ H3.out hb); clear H3; have H3 := n_; clear n_; clear hbox hb hg; (try clear s0_); (try clear s1_); (try clear s2_); have s0_ := (bc_ H3.out 0).trans rfl; have s1_ := (bc_ H3.out 1).trans rfl; have s2_ := (bc_ H3.out 2).trans rfl) | ((with_reducible refine gate_dst (N := 5) rfl ?_); refine box_event ?hg (N := 5) ?hd (cs := #[.func (.func ga) #[] lba]) (t := 68) ?hr ?_; (case hd => rfl); (case hg => rfl); (case hr => first | (go_simp; done) | (go_simp; rfl)); intro g5 hg wb5 hbox hb; have H5 := Aside0.mk hbox; have n_ := Aside0.mk (bp_ HB.out hb); clear HB; have HB := n_; clear n_; have n_ := Aside0.mk (bb_ H3.out hb); clear H3; have H3 := n_; clear n_; have n_ := Aside0.mk (bb_ H4.out hb); clear H4; have H4 := n_; clear n_; clear hbox hb hg; (try clear s0_); (try clear s1_); (try clear s2_); have s0_ := (bc_ H3.out 0).trans rfl; have s1_ := (bc_ H3.out 1).trans rfl; have s2_ := (bc_ H3.out 2).trans rfl) | (go_at_call 54; refine (impl_Sea_cells.calls (W0 : Int) (H0 : Int) A2 c2 ships (N : Int) _ (Kd.C_below HSh.out HB.out) HC2.out HCel.out).mono ?_; rintro e wl ⟨rfl, hb⟩; (try clear s0_); (try clear s1_); (try clear s2_); have n1_ := Aside0.mk (bb_ H4.out hb); have n2_ := Aside0.mk (bb_ H5.out hb); have n3_ := Aside0.mk (bp_ HB.out hb); clear hb H3 H4 H5 HB; have H4 := n1_; have H5 := n2_; have HB := n3_; clear n1_ n2_ n3_) | (go_at_call 60; refine (impl_chosen.calls 61 #[.pointer (some ⟨g5, 0, none⟩), .pointer (some ⟨g4, 0, none⟩)] q (fun c => acc c && !(T.any fun x => x.f0 == c)) eg114 (N : Int) _ (pred_open HAcc.out HB.out H5.out H4.out HT.out HTl.out) HQ.out HN17.out).mono ?_; rintro e wz ⟨v10, rfl, ho, hb⟩; rw [Int.toNat_natCast] at ho; have HO := Aside0.mk (Kd.R_lower ho (bz_ HB.out)); have n3_ := Aside0.mk (bp_ HB.out hb); clear ho hb HB; have HB := n3_; clear n3_))
 go_ret
 exact ⟨_, rfl, HO.out, HB.out⟩
def bestStep (list : List Int) (b c : Int) : Int := if b < 0 ∨ rd list c > rd list b then c else b
def bestV (list cs : List Int) : Int := cs.foldl (bestStep list) (-1)
def impl_Sea_best.f (a0_0 a0_1 : Int) (l0_2 : List Int) (l1 : List S45) : Option Int := (impl_Sea_shares.f a0_0 a0_1 l0_2 l1).bind fun s => some (bestV s.2 (openV (a0_0.toNat * a0_1.toNat) l1 fun _ => decide (s.1 > 0)))
theorem openV_in {N : Nat} {T : List S45} {acc : Int → Bool} {c : Int} (h : c ∈ openV N T acc) : 0 ≤ c ∧ c < (N : Int) := by
 have := (chosen_iff _ _ _).1 h
 exact ⟨this.1, this.2.1⟩
theorem openV_len (N : Nat) (T : List S45) (acc : Int → Bool) : (openV N T acc).length ≤ N := chosenTo_le _ N
theorem bestTo_in {N : Nat} (list cs : List Int) (h : ∀ c ∈ cs, 0 ≤ c ∧ c < (N : Int)) : ∀ j, j ≤ cs.length → -1 ≤ (cs.take j).foldl (bestStep list) (-1) ∧ (cs.take j).foldl (bestStep list) (-1) < (N : Int) := by
 intro j
 induction j with
 | zero => intro _; simp; omega
 | succ j ih =>
  intro hj
  have h1 := ih (by omega)
  have hlt : j < cs.length := by omega
  have hm := h _ (List.getElem_mem hlt)
  rw [List.take_succ_eq_append_getElem hlt, List.foldl_append, List.foldl_cons, List.foldl_nil]
  unfold bestStep at h1 ⊢
  split <;> omega
set_option maxHeartbeats 1000000 in
theorem pred_best {w : World} {g5 : Nat} {tot : Int} (h : w.heap[g5]? = some (.cells #[.int .i64 tot] 2 (0, 0))) : PredK Try.prog 41 #[.pointer (some ⟨g5, 0, none⟩)] (Kd.int .i64) (fun _ => True) (fun _ => decide (tot > 0)) w := by
 intro W x v _ hK hb
 have hv : v = .int .i64 x := by have e : [v] = [.int .i64 x] := hK; injection e
 subst hv
 have hc := (bc_ (bb_ h hb) 0).trans rfl
 have HB := Aside0.mk (Below.refl W.heap.size W)
 clear h hb hK
 obtain ⟨b, hbb⟩ : ∃ b, decide (tot > 0) = b := ⟨_, rfl⟩
 have hb2 : decide (0 < tot) = b := hbb
 show Calls _ _ _ _ fun e w' => e = .returned (.bool (decide (tot > 0))) ∧ _
 rw [hbb]
 go_enter Try.func41, Try.ntmps41
 go_wp2_with fail
 go_ret
 exact ⟨by first | rfl | rw [hbb] | rw [hb2], HB.out⟩
set_option maxHeartbeats 8000000 in
set_option maxRecDepth 100000 in
theorem impl_Sea_best.calls (a0_0 a0_1 : Int) (A2 : Option Addr) (c2 : Nat) (ships : List Int) (A3 : Option Addr) (c3 : Nat) (T : List S45) (r : Int) (w : World) (hr0_2 : Kd.C (Kd.int .i64) w A2 ships.length ships) (hc0_2 : ships.length ≤ c2) (hr1 : Kd.C k45 w A3 T.length T) (hc1 : T.length ≤ c3) (h : impl_Sea_best.f a0_0 a0_1 ships T = some r) :
  Calls Try.prog 23 #[.agg #[.int .i64 a0_0, .int .i64 a0_1, .slice A2 ships.length c2], .slice A3 T.length c3] w fun e w' => e = .returned (.int .i64 r) ∧ Below w.heap.size w w' := by
 have eg113 : ∀ args w, (callFunc 41 args).run Try.prog w = .ok (.enter 41 args) w := enters_of Try.func41 (by kernel_rfl) rfl
 unfold impl_Sea_best.f at h
 obtain ⟨⟨tot, list⟩, hsh, h⟩ := Option.bind_eq_some_iff.1 h
 have HShf := Aside0.mk hsh
 unfold impl_Sea_shares.f at hsh
 split at hsh
 case isFalse => cases hsh
 rename_i hs
 simp only [Option.some.injEq, Prod.mk.injEq] at hsh h
 obtain ⟨hs, hsi, hTl⟩ := hs
 obtain ⟨⟨W0, rfl, hw1, hw5⟩, ⟨H0, rfl, hh1, hh5⟩, hs1, hs3⟩ := seaV_nat hs
 simp only [Int.toNat_natCast] at hsh h
 obtain ⟨N, hN⟩ : ∃ N, W0 * H0 = N := ⟨_, rfl⟩
 rw [hN] at hsh h
 have hN25 : N ≤ 25 := by rw [← hN]; exact cells_le hw5 hh5
 have hll : list.length = N := by rw [← hsh.2, sharesV_len]
 have HNN := Aside0.mk hN
 have HN25 := Aside0.mk hN25
 have HTl := Aside0.mk hTl
 have HT := Aside0.mk hr1
 have HTc := Aside0.mk hc1
 have HSh := Aside0.mk hr0_2
 have HC2 := Aside0.mk hc0_2
 obtain ⟨cs, hcs⟩ : ∃ cs, openV N T (fun _ => decide (tot > 0)) = cs := ⟨_, rfl⟩
 have hin : ∀ c ∈ cs, 0 ≤ c ∧ c < (N : Int) := fun c hc => openV_in (by rw [← hcs] at hc; exact hc)
 have hcl : cs.length ≤ N := by rw [← hcs]; exact openV_len _ _ _
 rw [hcs] at h
 have HCs := Aside0.mk hcs
 have HIn := Aside0.mk hin
 have HBt := Aside0.mk (bestTo_in list cs hin)
 have HCl := Aside0.mk (show cs.length ≤ 25 by omega)
 have HLl := Aside0.mk hll
 have HR := Aside0.mk h
 have hu28 := Try.underlying28
 clear hr0_2 hc0_2 hr1 hc1 hs hsi hTl hw1 hw5 hh1 hh5 hs1 hs3 hN hN25 hsh h hcs hin hcl hll
 go_enter Try.func23, Try.ntmps23
 go_wp2_with (first | ((with_reducible refine gate_dst (N := 2) rfl ?_); refine box_event ?hg (N := 2) ?hd (cs := #[.int .i64 (W0 : Int), .int .i64 (H0 : Int), .slice A2 ships.length c2]) (t := 28) ?hr ?_; (case hd => rfl); (case hg => rfl); (case hr => first | (go_simp; done) | (go_simp; rfl)); intro g2 hg2 w1 hbox hb; have H2 := Aside0.mk hbox; have HB := Aside0.mk hb; clear hbox hb hg2; have s0_ := (bc_ H2.out 0).trans rfl; have s1_ := (bc_ H2.out 1).trans rfl; have s2_ := (bc_ H2.out 2).trans rfl) | (go_at_call 39; refine (impl_Sea_shares.calls (W0 : Int) (H0 : Int) A2 c2 ships A3 c3 T tot list _ (Kd.C_below HSh.out HB.out) HC2.out (Kd.C_below HT.out HB.out) HTc.out HShf.out).mono ?_; rintro e w3 ⟨v13, rfl, ho, hb⟩; obtain ⟨Al, cl, el⟩ := Kd.R_slice ho; subst el; have HL := Aside0.mk (Kd.R_lower ho (bz_ HB.out)); (try clear s0_); (try clear s1_); (try clear s2_); clear ho; have n_ := Aside0.mk (bb_ H2.out hb); clear H2; have H2 := n_; clear n_; have n_ := Aside0.mk (bp_ HB.out hb); clear HB; have HB := n_; clear n_; clear hb; have s0_ := (bc_ H2.out 0).trans rfl; have s1_ := (bc_ H2.out 1).trans rfl; have s2_ := (bc_ H2.out 2).trans rfl) | ((with_reducible refine gate_dst (N := 5) rfl ?_); refine box_event ?hg (N := 5) ?hd (cs := #[.int .i64 0]) (t := 2) ?hr ?_; (case hd => rfl); (case hg => rfl); (case hr => first | (go_simp; done) | (go_simp; rfl)); intro g5 hg5 w4 hbox hb; have H5 := Aside0.mk hbox; have HG5 := Aside0.mk (show w.heap.size ≤ g5 ∧ g2 ≠ g5 by have := bz_ HB.out; have := blk_lt H2.out; omega); have hlt := Aside0.mk (show ∀ k, (Value.slice Al list.length cl).ownBlock = some k → k ≠ g5 from fun k hk => by have := Kd.R_lt HL.out k hk; omega); (try clear s0_); (try clear s1_); (try clear s2_); have n_ := Aside0.mk (bb_ H2.out hb); clear H2; have H2 := n_; clear n_; have n_ := Aside0.mk (Kd.R_below HL.out hb); clear HL; have HL := n_; clear n_; have n_ := Aside0.mk (bp_ HB.out hb); clear HB; have HB := n_; clear n_; clear hb hbox hg5; have s0_ := (bc_ H2.out 0).trans rfl; have s1_ := (bc_ H2.out 1).trans rfl; have s2_ := (bc_ H2.out 2).trans rfl; have hz5 := (bc_ H5.out 0).trans rfl; have hfz5 := bf_ H5.out 0) | ((with_reducible refine gate_store (t := 2) (p := 5) rfl ?_); refine store_event (t := 2) (p := 5) (v := .tmp 14) (w1 := (w4.setCell ⟨g5, 0, none⟩ (.int .i64 tot))) ?hg ?ho ?hn ?hr ?_; (case ho => rfl); (case hg => rfl); (case hn => rfl); (case hr => first | (go_simp; done) | (go_simp; rfl)); intro w5 hw5; have t2_ := blk_far (p := ⟨g5, 0, none⟩) H2.out HG5.out.2 (.int .i64 tot); have t5_ := blk_put H5.out 0 (.int .i64 tot) rfl; have tL_ := Kd.R_far (p := ⟨g5, 0, none⟩) (Kd.R_tight rfl HL.out) (fun k hk => hlt.out k hk.symm) (.int .i64 tot); have tB_ : Below w.heap.size w (w4.setCell ⟨g5, 0, none⟩ (.int .i64 tot)) := bs_ HB.out HG5.out.1; rw [← hw5] at t2_ t5_ tL_ tB_; clear hz5 hfz5 hlt; (try clear s0_); (try clear s1_); (try clear s2_); clear H2 H5 HL HB; have H2 := Aside0.mk t2_; have H5 := Aside0.mk t5_; have HL := Aside0.mk (Kd.R_mono (ok' := fun _ => True) tL_ (fun _ _ => trivial)); have HB := Aside0.mk tB_; clear hw5 t2_ t5_ tL_ tB_; have s0_ := (bc_ H2.out 0).trans rfl; have s1_ := (bc_ H2.out 1).trans rfl; have s2_ := (bc_ H2.out 2).trans rfl) | (go_at_call 40; refine (open_calls HNN.out HN25.out (q := fun _ => True) eg113 (pred_best H5.out) (fun _ _ _ => trivial) (Kd.C_below HSh.out HB.out) HC2.out (Kd.C_below HT.out HB.out) HTl.out).mono ?_; rintro e w6 ⟨v19, rfl, ho, hb⟩; rw [HCs.out] at ho; obtain ⟨Ac, cc, ec⟩ := Kd.R_slice ho; subst ec; have HC := Aside0.mk (Kd.R_lower ho (bz_ HB.out)); (try clear s0_); (try clear s1_); (try clear s2_); clear ho; have n_ := Aside0.mk (Kd.R_below HL.out hb); clear HL; have HL := n_; clear n_; have n_ := Aside0.mk (bp_ HB.out hb); clear HB; have HB := n_; clear n_; clear hb H2 H5))
 go_loopg [7, 21] cs.length (fun gg s7 s21 wr => ∃ j : Nat, j ≤ cs.length ∧ cs.length - j ≤ gg ∧ s7 = .int .i64 ((cs.take j).foldl (bestStep list) (-1)) ∧ s21 = .int .i64 j ∧ Aside0 (Kd.R (Kd.int .i64) 2 wr w.heap.size (fun _ => True) (.slice Al list.length cl) list) ∧ Aside0 (Kd.R (Kd.int .i64) 2 wr w.heap.size (fun _ => True) (.slice Ac cs.length cc) cs) ∧ Aside0 (Below w.heap.size w wr))
 case atStart => exact ⟨0, Nat.zero_le _, Nat.le_refl _, rfl, rfl, HL, HC, HB⟩
 case round =>
  clear HL HC HB
  obtain ⟨j, hj, hgj, rfl, rfl, HL, HC, HB⟩ := hrel
  by_cases hlt : j < cs.length
  ·obtain ⟨adc, rfl, hxc⟩ := Kd.at_int (Kd.R_reads' HC.out).2.2 (j : Int) (by omega) (by omega)
   rw [Int.toNat_natCast, rd_get cs j hlt] at hxc
   have hb := HBt.out j hj
   have hcin := HIn.out _ (List.getElem_mem hlt)
   have hst : (cs.take (j + 1)).foldl (bestStep list) (-1) = bestStep list ((cs.take j).foldl (bestStep list) (-1)) cs[j] := by rw [List.take_succ_eq_append_getElem hlt, List.foldl_append, List.foldl_cons, List.foldl_nil]
   generalize cs[j] = c at hxc hcin hst
   generalize (cs.take j).foldl (bestStep list) (-1) = b at hb hst ⊢
   have HSt := Aside0.mk hst
   have q1 := decide_eq_true (show (j : Int) < (cs.length : Int) by omega)
   have q2 := decide_eq_true hlt
   have q3 := eq_true (show (j : Int) < (cs.length : Int) by omega)
   have q4 := eq_true (show (0 : Int) ≤ (j : Int) by omega)
   have q5 := eq_true hlt
   have HJm := Aside0.mk (show cs.length - (j + 1) < gk by omega)
   have HJr := Aside0.mk (show j + 1 ≤ cs.length by omega)
   have HJs := Aside0.mk (show wrap64 ((j : Int) + 1) = ((j + 1 : Nat) : Int) from wrap_one (a := j) (by have := HCl.out; omega))
   by_cases hb0 : b < 0
   ·have HV := Aside0.mk (show (cs.take (j + 1)).foldl (bestStep list) (-1) = c by rw [HSt.out]; unfold bestStep; rw [if_pos (.inl hb0)])
    have p1 := decide_eq_true hb0
    have p2 := eq_true hb0
    clear hst hb hcin hj hgj hlt
    go_wp2_with fail
    go_quiet (fail)
    go_wp2_with fail
    have hbq := pbN_ (Below.refl wr.heap.size wr) nq
    go_roundg (cs.length - (j + 1))
    case measure => exact HJm.out
    case rel => exact ⟨j + 1, HJr.out, Nat.le_refl _, by rw [HV.out], (by first | rfl | exact congrArg (Value.int .i64) HJs.out), ⟨Kd.R_below HL.out hbq⟩, ⟨Kd.R_below HC.out hbq⟩, ⟨bp_ HB.out hbq⟩⟩
   ·obtain ⟨adl, rfl, hxl⟩ := Kd.at_int (Kd.R_reads' HL.out).2.2 c hcin.1 (by rw [HLl.out]; exact hcin.2)
    obtain ⟨adl2, el2, hxb⟩ := Kd.at_int (Kd.R_reads' HL.out).2.2 b (by omega) (by rw [HLl.out]; omega)
    injection el2 with el2
    subst el2
    have p1 := decide_eq_false hb0
    have p2 := eq_false hb0
    have p3 := eq_true hcin.1
    have p4 := eq_true (show c < (list.length : Int) by rw [HLl.out]; exact hcin.2)
    have p5 := eq_true (show 0 ≤ b by omega)
    have p6 := eq_true (show b < (list.length : Int) by rw [HLl.out]; exact hb.2)
    by_cases hgt : rd list c > rd list b
    ·have HV := Aside0.mk (show (cs.take (j + 1)).foldl (bestStep list) (-1) = c by rw [HSt.out]; unfold bestStep; rw [if_pos (.inr hgt)])
     have p7 := decide_eq_true hgt
     have p8 := decide_eq_true (show rd list b < rd list c from hgt)
     clear hst hb hcin hj hgj hlt
     generalize rd list c = lc at *
     generalize rd list b = lb at *
     go_wp2_with fail
     go_quiet (fail)
     go_wp2_with fail
     have hbq := pbN_ (Below.refl wr.heap.size wr) nq
     go_roundg (cs.length - (j + 1))
     case measure => exact HJm.out
     case rel => exact ⟨j + 1, HJr.out, Nat.le_refl _, by rw [HV.out], (by first | rfl | exact congrArg (Value.int .i64) HJs.out), ⟨Kd.R_below HL.out hbq⟩, ⟨Kd.R_below HC.out hbq⟩, ⟨bp_ HB.out hbq⟩⟩
    ·have HV := Aside0.mk (show (cs.take (j + 1)).foldl (bestStep list) (-1) = b by rw [HSt.out]; unfold bestStep; rw [if_neg (by rintro (h | h); exact hb0 h; exact hgt h)])
     have p7 := decide_eq_false hgt
     have p8 := decide_eq_false (show ¬ rd list b < rd list c from hgt)
     clear hst hb hcin hj hgj hlt
     generalize rd list c = lc at *
     generalize rd list b = lb at *
     go_wp2_with fail
     go_quiet (fail)
     go_wp2_with fail
     have hbq := pbN_ (Below.refl wr.heap.size wr) nq
     go_roundg (cs.length - (j + 1))
     case measure => exact HJm.out
     case rel => exact ⟨j + 1, HJr.out, Nat.le_refl _, by rw [HV.out], (by first | rfl | exact congrArg (Value.int .i64) HJs.out), ⟨Kd.R_below HL.out hbq⟩, ⟨Kd.R_below HC.out hbq⟩, ⟨bp_ HB.out hbq⟩⟩
  ·have hje : j = cs.length := by omega
   subst hje
   have q1 := decide_eq_false (show ¬ (cs.length : Int) < (cs.length : Int) by omega)
   go_wp2_with fail
   go_ret
   exact ⟨by first | rfl | (rw [← HR.out]; rfl), HB.out⟩

end Go.Proofs.Ythmfpdkemkjpkaa.F
