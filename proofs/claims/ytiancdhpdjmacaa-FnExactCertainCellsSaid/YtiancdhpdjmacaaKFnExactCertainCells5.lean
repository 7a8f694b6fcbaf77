-- written by the session's program xp.py over the kit's print program, and by hand; texts joined by pack.py
import Derived.Test.YtiancdhpdjmacaaKFnExactCertainCells4
namespace Go.Proofs.Ytiancdhpdjmacaa.F
open Go.RowKit Go.Proofs.YtiancdhpdjmacaaW.PrintWords Go.Proofs.YtiancdhpdjmacaaW.PrintLast Go.Proofs.YtiancdhpdjmacaaW.PrintMore
attribute [local go_sem] max2_int min2_int max_two min_two max_three min_three max_four min_four   -- for this text's walks alone
set_option linter.unusedVariables false
set_option linter.unusedSimpArgs false

-- (impl.Sea).shares$1, by hand. (for 112)
-- impl_agrees impl_whole
-- Frame Clear EachOk shareRow agFrom orAll
theorem Frame.set {M : Nat → Prop} {W : World} {p : Addr} (v : Value) (h : M p.block) : Frame M M W (W.setCell p v) := ⟨rfl, rfl, rfl, by simp [World.setCell], fun k _ hm => Below.heap_setCell W p v k (fun e => hm (e ▸ h)), fun _ hk => .inl hk⟩
structure ShNe (w00 : World) (g3 ga gb go : Nat) : Prop where
  a3 : g3 ≠ ga
  ab : gb ≠ ga
  ao : ga ≠ go
  o3 : g3 ≠ go
  ob : gb ≠ go
  za : w00.heap.size ≤ ga
  zo : w00.heap.size ≤ go
/-- What the function that adds a fleet holds while it runs. -/
structure ShEnv (w00 : World) (g3 ga gb go co : Nat) (A3 : Option Addr) (c3 : Nat) (T : List S93) (N : Nat) (A : Option Addr) (list : List Int) (cnt : Int) (row : List Int) (W0 W : World) : Prop where
  below : Below w00.heap.size w00 W
  b3 : W.heap[g3]? = some (.cells #[.slice A3 T.length c3] 55 (0, 0))
  bb : W.heap[gb]? = some (.cells #[.slice (some ⟨go, 0, none⟩) N co] 22 (0, 0))
  ba : W.heap[ga]? = some (.cells #[.int .i64 cnt] 2 (0, 0))
  row : Kd.R (Kd.int .i64) 2 W w00.heap.size (fun k => k = go) (.slice (some ⟨go, 0, none⟩) N co) row
  cl : Clear (fun k => k = ga ∨ k = go) W A list
  fr : Frame (fun k => k = ga ∨ k = go) (fun k => k = ga ∨ k = go) W0 W
theorem ShEnv.stay {w00 : World} {g3 ga gb go co : Nat} {A3 : Option Addr} {c3 : Nat} {T : List S93} {N : Nat} {A : Option Addr} {list : List Int} {cnt : Int} {row : List Int} {W0 W W' : World} (h : ShEnv w00 g3 ga gb go co A3 c3 T N A list cnt row W0 W) (hb : Below W.heap.size W W') : ShEnv w00 g3 ga gb go co A3 c3 T N A list cnt row W0 W' :=
  ⟨below_step h.below hb, blk_below h.b3 hb, blk_below h.bb hb, blk_below h.ba hb, Kd.R_below h.row hb, h.cl.frame (Frame.below hb), h.fr.trans (Frame.below hb)⟩
theorem ShEnv.setA {w00 : World} {g3 ga gb go co : Nat} {A3 : Option Addr} {c3 : Nat} {T : List S93} {N : Nat} {A : Option Addr} {list : List Int} {cnt : Int} {row : List Int} {W0 W : World} (h : ShEnv w00 g3 ga gb go co A3 c3 T N A list cnt row W0 W) (hn : ShNe w00 g3 ga gb go) (z : Int) : ShEnv w00 g3 ga gb go co A3 c3 T N A list z row W0 (W.setCell ⟨ga, 0, none⟩ (.int .i64 z)) :=
  have hf := Frame.set (M := fun k => k = ga ∨ k = go) (W := W) (p := ⟨ga, 0, none⟩) (.int .i64 z) (.inl rfl)
  ⟨below_set h.below hn.za, blk_far (p := ⟨ga, 0, none⟩) h.b3 hn.a3 _, blk_far (p := ⟨ga, 0, none⟩) h.bb hn.ab _, blk_put h.ba 0 _ rfl, Kd.R_far (p := ⟨ga, 0, none⟩) h.row (fun k hk => by subst hk; exact fun e => hn.ao e.symm) _, h.cl.frame hf, h.fr.trans hf⟩
theorem ShEnv.setRow {w00 : World} {g3 ga gb go co : Nat} {A3 : Option Addr} {c3 : Nat} {T : List S93} {N : Nat} {A : Option Addr} {list : List Int} {cnt : Int} {row : List Int} {W0 W : World} (h : ShEnv w00 g3 ga gb go co A3 c3 T N A list cnt row W0 W) (hn : ShNe w00 g3 ga gb go) {j : Nat} {z : Int} (_hj : j < N) : ShEnv w00 g3 ga gb go co A3 c3 T N A list cnt (row.set j z) W0 (W.setCell ⟨go, j, none⟩ (.int .i64 z)) := by
  have hf := Frame.set (M := fun k => k = ga ∨ k = go) (W := W) (p := ⟨go, j, none⟩) (.int .i64 z) (.inr rfl)
  have hr := Kd.R_putn h.row (j : Int) z
  rw [Int.toNat_natCast] at hr
  exact ⟨below_set h.below hn.zo, blk_far (p := ⟨go, j, none⟩) h.b3 hn.o3 _, blk_far (p := ⟨go, j, none⟩) h.bb hn.ob _, blk_far (p := ⟨go, j, none⟩) h.ba hn.ao _, hr, h.cl.frame hf, h.fr.trans hf⟩
theorem ShEnv.rowblk {w00 : World} {g3 ga gb go co : Nat} {A3 : Option Addr} {c3 : Nat} {T : List S93} {N : Nat} {A : Option Addr} {list : List Int} {cnt : Int} {row : List Int} {W0 W : World} (h : ShEnv w00 g3 ga gb go co A3 c3 T N A list cnt row W0 W) (hp : 0 < N) : ∃ cells, W.heap[go]? = some (.cells cells 2 (0, 0)) := by
  have e := (Kd.R_reads' h.row).1
  obtain ⟨g, cap, e2, _, _, cells, hc⟩ := Kd.R_form h.row (by omega)
  injection e2 with e3
  injection e3 with e3
  injection e3 with e3
  subst e3
  exact ⟨cells, hc⟩
def impl_Sea_shares_1.T5 : Bool × List (List Nat × List Nat) := (true, [([], []), ([], []), ([0, 1], [0, 1]), ([2], [2]), ([], []), ([4], [4]), ([], []), ([5, 6], [5, 6]), ([7], [7]), ([3, 8], [3, 8]), ([0, 1, 0, 1, 2, 3, 4, 5, 6, 7, 8, 9], [0, 1]), ([10, 9, 5, 0, 1, 2, 3, 4, 5, 6, 7, 8, 9], [9, 10])])
def impl_Sea_shares_1.B5 : List Nat := [0, 0, 3, 7, 0, 16, 0, 112, 240, 511, 1023, 2047]
theorem impl_Sea_shares_1.tab5 : rtab .any (opsOf Try.f112 5) = impl_Sea_shares_1.T5 := by kernel_rfl
theorem impl_Sea_shares_1.bits5 : waitsOk impl_Sea_shares_1.T5.2 impl_Sea_shares_1.B5 = true := by kernel_rfl

set_option maxHeartbeats 8000000 in
set_option maxRecDepth 100000 in
theorem impl_Sea_shares_1.does (w00 : World) (g3 ga gb go co : Nat) (A3 : Option Addr) (c3 : Nat) (T : List S93) (N : Nat) (A : Option Addr) (list : List Int) (c : Nat) (done : List (List Int)) (W : World) (ka kw : Nat) (hne : ShNe w00 g3 ga gb go) (hT : Kd.C k93 w00 A3 T.length T) (hTc : T.length ≤ c3) (hlc : list.length ≤ c) (hN : 0 < N ∧ N ≤ 25) (hd : done.length ≤ 1000000)
    (hag : impl_agrees.f ka list T = some (agFrom list 0 T)) (hwh : impl_whole.f kw list = some (orAll list)) (hbit : ∀ j : Nat, j < N → Go.bits .and .i64 (shr .i64 (orAll list) (j : Int)) 1 = if bitIn (orAll list) (j : Int) = true then 1 else 0) (h : ShEnv w00 g3 ga gb go co A3 c3 T N A list (done.length : Int) (sharesV N done) W W) :
    Calls Try.prog 112 #[.slice A list.length c, .pointer (some ⟨g3, 0, none⟩), .pointer (some ⟨ga, 0, none⟩), .pointer (some ⟨gb, 0, none⟩)] W fun e w' => e = .returned (.tuple #[]) ∧ ShEnv w00 g3 ga gb go co A3 c3 T N A list ((if agFrom list 0 T = true then done ++ [list] else done).length : Int) (sharesV N (if agFrom list 0 T = true then done ++ [list] else done)) W w' := by
  have HNe := Aside0.mk hne
  have HT := Aside0.mk hT
  have HTc := Aside0.mk hTc
  have HLc := Aside0.mk hlc
  have HE := Aside0.mk h
  clear hne hT hTc hlc h
  cases hg0 : agFrom list 0 T with
  | false =>
    rw [hg0] at hag
    rw [if_neg (by simp)]
    have HAg := Aside0.mk hag
    clear hag hwh hbit hg0 hN hd
    have h3_ := (blk_cell HE.out.b3 0).trans rfl
    have ha_ := (blk_cell HE.out.ba 0).trans rfl
    have hb_ := (blk_cell HE.out.bb 0).trans rfl
    go_enter Try.func112, Try.ntmps112
    go_wp2_with (first | (go_at_call 87; refine (impl_agrees.calls ka A c list A3 c3 T _ _ HE.out.cl.1 HLc.out (Kd.C_below HT.out HE.out.below) HTc.out HAg.out).mono ?_; rintro e w1 ⟨rfl, hb⟩; (try clear h3_); (try clear ha_); (try clear hb_); (try clear hfa); have n_ := Aside0.mk (HE.out.stay hb); clear HE hb; have HE := n_; clear n_; have h3_ := (blk_cell HE.out.b3 0).trans rfl; have ha_ := (blk_cell HE.out.ba 0).trans rfl; have hb_ := (blk_cell HE.out.bb 0).trans rfl; have hfa := blk_frozen HE.out.ba 0))
    refine bodyPost_ret (results_none rfl _ _ _) rfl ?_
    exact ⟨rfl, HE.out⟩
  | true =>
    rw [hg0] at hag
    rw [if_pos rfl]
    have HAg := Aside0.mk hag
    obtain ⟨V, hV⟩ : ∃ V, orAll list = V := ⟨_, rfl⟩
    have HVs := Aside0.mk (fun (j : Nat) (_ : j < N) => show shareAt (done ++ [list]) j = shareAt done j + if bitIn V (j : Int) = true then 1 else 0 by rw [shareAt_snoc, hV])
    rw [hV] at hwh hbit
    have HWh := Aside0.mk hwh
    have HBit := Aside0.mk hbit
    have HNp := Aside0.mk hN.1
    have HN25 := Aside0.mk hN.2
    have HD := Aside0.mk hd
    obtain ⟨z, hz⟩ : ∃ z : Int, ((done ++ [list]).length : Int) = z := ⟨_, rfl⟩
    have hw : wrap64 ((done.length : Int) + 1) = z := by rw [← hz, List.length_append, List.length_singleton]; unfold wrap64; omega
    rw [hz]
    clear hag hwh hbit hg0 hV hN hd hz
    have h3_ := (blk_cell HE.out.b3 0).trans rfl
    have ha_ := (blk_cell HE.out.ba 0).trans rfl
    have hb_ := (blk_cell HE.out.bb 0).trans rfl
    go_enter Try.func112, Try.ntmps112
    go_wp2_with (first | (go_at_call 87; refine (impl_agrees.calls ka A c list A3 c3 T _ _ HE.out.cl.1 HLc.out (Kd.C_below HT.out HE.out.below) HTc.out HAg.out).mono ?_; rintro e w1 ⟨rfl, hb⟩; (try clear h3_); (try clear ha_); (try clear hb_); (try clear hfa); have n_ := Aside0.mk (HE.out.stay hb); clear HE hb; have HE := n_; clear n_; have h3_ := (blk_cell HE.out.b3 0).trans rfl; have ha_ := (blk_cell HE.out.ba 0).trans rfl; have hb_ := (blk_cell HE.out.bb 0).trans rfl; have hfa := blk_frozen HE.out.ba 0) | ((with_reducible refine gate_store (t := 2) (p := 2) rfl ?_); refine store_event (t := 2) (p := 2) (v := .tmp 11) (w1 := (w1.setCell ⟨ga, 0, none⟩ (.int .i64 z))) ?hg ?ho ?hn ?hr ?_; (case ho => rfl); (case hg => rfl); (case hn => rfl); (case hr => first | (go_simp; done) | (go_simp; rfl)); intro w5 hw5; (try clear h3_); (try clear ha_); (try clear hb_); (try clear hfa); have n_ := HE.out.setA HNe.out z; rw [← hw5] at n_; clear HE hw5; have HE := Aside0.mk n_; clear n_; have h3_ := (blk_cell HE.out.b3 0).trans rfl; have ha_ := (blk_cell HE.out.ba 0).trans rfl; have hb_ := (blk_cell HE.out.bb 0).trans rfl))
    clear hw
    (try clear h3_)
    (try clear ha_)
    (try clear hb_)
    (try clear hfa)
    go_loopg [14] N (fun gg s14 wr => ∃ j : Nat, j ≤ N ∧ N - j ≤ gg ∧ s14 = .int .i64 j ∧ Aside0 (ShEnv w00 g3 ga gb go co A3 c3 T N A list z (shareRow N done list j) W wr))
    case atStart => exact ⟨0, Nat.zero_le _, Nat.le_refl _, rfl, ⟨by rw [shareRow_zero]; exact HE.out⟩⟩
    case round =>
      clear HE
      obtain ⟨j, hj, hgj, rfl, HE⟩ := hrel
      by_cases hlt : j < N
      · obtain ⟨adj, eqj, hxj⟩ := Kd.at_int (Kd.R_reads' HE.out.row).2.2 (j : Int) (by omega) (by rw [shareRow_len]; omega)
        injection eqj with eqj
        subst eqj
        rw [Int.toNat_natCast, shareRow_rd _ _ hlt, add_at, Nat.zero_add] at hxj
        have hsb := shareAt_bound done j
        have HJm := Aside0.mk (show N - (j + 1) < gk by omega)
        have HJr := Aside0.mk (show j + 1 ≤ N by omega)
        have HJlt := Aside0.mk hlt
        have HJs := Aside0.mk (show wrap64 ((j : Int) + 1) = ((j + 1 : Nat) : Int) from wrap_one (a := j) (by have := HN25.out; omega))
        obtain ⟨sv, hsv⟩ : ∃ sv, shareAt done j = sv := ⟨_, rfl⟩
        have hs2 := HVs.out j hlt
        rw [hsv] at hxj hsb hs2
        have hbt := HBit.out j hlt
        obtain ⟨bt, hbt2⟩ : ∃ bt : Int, (if bitIn V (j : Int) = true then (1 : Int) else 0) = bt := ⟨_, rfl⟩
        rw [hbt2] at hbt hs2
        have hb01 : 0 ≤ bt ∧ bt ≤ 1 := by rw [← hbt2]; split <;> omega
        obtain ⟨sz, hsz⟩ : ∃ sz, shareAt (done ++ [list]) j = sz := ⟨_, rfl⟩
        have hwz : wrap64 (sv + bt) = sz := by rw [← hsz, hs2]; have := HD.out; unfold wrap64; omega
        have hbt3 : Go.bits .and .i64 (V / 2 ^ (min j 64)) 1 = bt := hbt
        have HSv := Aside0.mk (show (shareRow N done list j).set j sz = shareRow N done list (j + 1) by rw [← hsz]; exact shareRow_set done list hlt)
        have q1 := decide_eq_true (show (j : Int) < (N : Int) by omega)
        have q2 := decide_eq_true hlt
        have q3 := eq_true (show (j : Int) < (N : Int) by omega)
        have q4 := eq_true (show (0 : Int) ≤ (j : Int) by omega)
        have q5 := eq_true hlt
        have q6 := eq_false (show ¬ (j : Int) < 0 by omega)
        have q7 := decide_eq_false (show ¬ (j : Int) < 0 by omega)
        clear hsb hs2 hbt2 hb01 hsz hsv hj hgj hlt
        have h3_ := (blk_cell HE.out.b3 0).trans rfl
        have ha_ := (blk_cell HE.out.ba 0).trans rfl
        have hb_ := (blk_cell HE.out.bb 0).trans rfl
        go_wp2_with fail
        refine start_ (n := 12) (S := fun w' => w'.cell? ⟨gb, 0, none⟩ = some (.slice (some ⟨go, 0, none⟩) N co) ∧ w'.cell? ⟨go, j, none⟩ = some (.int .i64 sv)) (ds := [11]) #[false, false, false, false, false, false, false, false, false, false, false, false] (by kernel_rfl) rfl rfl ⟨(blk_cell (blk_drew HE.out.bb) 0).trans rfl, ((below_drew1 (Below.refl wr.heap.size wr)).cell (World.block_lt_of_cell? _ _ hxj)).trans hxj⟩ (fun hHeld => ?_)
        refine with_tabW impl_Sea_shares_1.tab5 impl_Sea_shares_1.bits5 (fun HT_ HW_ => ?_)
        have HEd := Aside0.mk (HE.out.stay (below_drew1 (Below.refl wr.heap.size wr)))
        have hxd := ((below_drew1 (Below.refl wr.heap.size wr)).cell (World.block_lt_of_cell? _ _ hxj)).trans hxj
        clear HE hxj h3_ ha_ hb_
        generalize hq_ : wr.drew = wd_ at HEd hxd hHeld ⊢
        clear hq_
        refine take_ (i := 0) (N := some 17) (v := ?_) (a' := ?_) (flg_ 12 1) rfl rfl (take_ofW HT_.out HW_.out (by kernel_rfl)) (fun _ _ _ h => h) (Or.inl ⟨by rfl, ?_⟩) hHeld ?_ ?_
        rotate_left
        · rintro w' ⟨s0_, s1_⟩
          go_simp
          with_reducible rfl
        rotate_left
        · simp only [Act.put, sz_, s0_, s1_, i64_w, i32_w]
          rfl
        refine pure_ (i := 1) (N := some 18) (v := ?_) (a' := ?_) (flg_ 12 3) rfl rfl (any_of HT_.out (by kernel_rfl)) (fun _ _ _ h => h) (Or.inl ⟨by rfl, ?_⟩) ?_ ?_
        rotate_left
        · intro w'
          go_simp
          with_reducible rfl
        rotate_left
        · simp only [Act.put, sz_, s0_, s1_, i64_w, i32_w]
          rfl
        refine pure_ (i := 2) (N := some 19) (v := ?_) (a' := ?_) (flg_ 12 7) rfl rfl (any_of HT_.out (by kernel_rfl)) (fun _ _ _ h => h) (Or.inl ⟨by rfl, ?_⟩) ?_ ?_
        rotate_left
        · intro w'
          go_simp
          with_reducible rfl
        rotate_left
        · simp only [Act.put, sz_, s0_, s1_, i64_w, i32_w]
          rfl
        refine take_ (i := 3) (N := some 20) (v := ?_) (a' := ?_) (flg_ 12 15) rfl rfl (take_ofW HT_.out HW_.out (by kernel_rfl)) (fun _ _ _ h => h) (Or.inl ⟨by rfl, ?_⟩) hHeld ?_ ?_
        rotate_left
        · rintro w' ⟨s0_, s1_⟩
          go_simp
          with_reducible rfl
        rotate_left
        · simp only [Act.put, sz_, s0_, s1_, i64_w, i32_w]
          rfl
        refine pure_ (i := 4) (N := some 21) (v := ?_) (a' := ?_) (flg_ 12 31) rfl rfl (any_of HT_.out (by kernel_rfl)) (fun _ _ _ h => h) (Or.inl ⟨by rfl, ?_⟩) ?_ ?_
        rotate_left
        · intro w'
          go_simp
          with_reducible rfl
        rotate_left
        · simp only [Act.put, sz_, s0_, s1_, i64_w, i32_w]
          rfl
        refine pure_ (i := 6) (N := some 23) (v := ?_) (a' := ?_) (flg_ 12 95) rfl rfl (any_of HT_.out (by kernel_rfl)) (fun _ _ _ h => h) (Or.inl ⟨by rfl, ?_⟩) ?_ ?_
        rotate_left
        · intro w'
          go_simp
          with_reducible rfl
        rotate_left
        · simp only [Act.put, sz_, s0_, s1_, i64_w, i32_w]
          rfl
        refine one_ (i := 5) (N := some 22) (flg_ 12 127) rfl rfl (one_of HT_.out (by kernel_rfl)) (by decide) (fun K hK => ?_)
        refine goes_ Try.func75 (by kernel_rfl) rfl #[.slice A list.length c] (by rfl) rfl rfl (by (try simp only [List.map_toArray, List.map_cons, List.map_nil]); first | done | rfl) ?_
        refine (impl_whole.calls kw A c list V wd_ HEd.out.cl.1 HLc.out HWh.out).mono ?_
        rintro e w6 ⟨rfl, hd⟩
        have hb := hd.below
        clear hd
        refine ⟨_, rfl, ?_⟩
        have HE := Aside0.mk (HEd.out.stay hb)
        have hx6 := (hb.cell (World.block_lt_of_cell? _ _ hxd)).trans hxd
        clear HEd hb hxd
        refine hK.out _ _ ⟨(blk_cell HE.out.bb 0).trans rfl, hx6⟩ (fun hHeld => ?_)
        clear hK K
        refine norm_ (a' := ?_) ?_ ?_
        rotate_left
        · show Act.put _ (some 22) _ = _
          simp only [Act.put, sz_, s0_, s1_, i64_w, i32_w]
          rfl
        refine pure_ (i := 7) (N := some 24) (v := ?_) (a' := ?_) (flg_ 12 255) rfl rfl (any_of HT_.out (by kernel_rfl)) (fun _ _ _ h => h) (Or.inl ⟨by rfl, ?_⟩) ?_ ?_
        rotate_left
        · intro w'
          go_simp
          with_reducible rfl
        rotate_left
        · simp only [Act.put, sz_, s0_, s1_, i64_w, i32_w]
          rfl
        refine pure_ (i := 8) (N := some 25) (v := ?_) (a' := ?_) (flg_ 12 511) rfl rfl (any_of HT_.out (by kernel_rfl)) (fun _ _ _ h => h) (Or.inl ⟨by rfl, ?_⟩) ?_ ?_
        rotate_left
        · intro w'
          go_simp
          with_reducible rfl
        rotate_left
        · simp only [Act.put, sz_, s0_, s1_, i64_w, i32_w]
          rfl
        refine pure_ (i := 9) (N := some 26) (v := ?_) (a' := ?_) (flg_ 12 1023) rfl rfl (any_of HT_.out (by kernel_rfl)) (fun _ _ _ h => h) (Or.inl ⟨by rfl, ?_⟩) ?_ ?_
        rotate_left
        · intro w'
          go_simp
          with_reducible rfl
        rotate_left
        · simp only [Act.put, sz_, s0_, s1_, i64_w, i32_w]
          rfl
        refine pure_ (i := 10) (N := some 27) (v := ?_) (a' := ?_) (flg_ 12 2047) rfl rfl (any_of HT_.out (by kernel_rfl)) (fun _ _ _ h => h) (Or.inl ⟨by rfl, ?_⟩) ?_ ?_
        rotate_left
        · intro w'
          go_simp
          with_reducible rfl
        rotate_left
        · simp only [Act.put, sz_, s0_, s1_, i64_w, i32_w]
          rfl
        refine last_ (i := 11) (N := none) (flg_ 12 4095) rfl rfl (one_of HT_.out (by kernel_rfl)) (by decide) (fun K hK => ?_)
        obtain ⟨rc_, hrb⟩ := HE.out.rowblk HNp.out
        have hfR := blk_frozen hrb j
        refine skip_ (w1 := w6.setCell ⟨go, j, none⟩ (.int .i64 sz)) (by rfl) rfl ?_ ?_
        · go_simp
          (try rw [hbt3, hwz])
          (try rfl)
        refine hK.out _ _ ?_
        clear hK K hfR hrb hx6 hHeld
        have n_ := HE.out.setRow (z := sz) HNe.out HJlt.out
        rw [HSv.out] at n_
        clear HE
        have HE := Aside0.mk n_
        clear n_
        generalize w6.setCell ⟨go, j, none⟩ (.int .i64 sz) = w7 at HE ⊢
        refine done_ (done_of HT_.out (by kernel_rfl)) ?_
        go_wp2_with fail
        go_roundg (N - (j + 1))
        case measure => exact HJm.out
        case rel => exact ⟨j + 1, HJr.out, Nat.le_refl _, (by first | rfl | exact congrArg (Value.int .i64) HJs.out), HE⟩
      · have hje : j = N := by omega
        subst hje
        have q1 := decide_eq_false (show ¬ (j : Int) < (j : Int) by omega)
        go_wp2_with fail
        go_end0
        exact ⟨rfl, by have := HE.out; rwa [shareRow_all] at this⟩
-- What eachFleet needs of the function that adds a fleet to the shares. (for 112)
-- ShEnv EachOk InPl implAgrees_ev implWhole_ev shareRow placesOf_bound
def agreeing (fls : List (List Int)) (T : List S93) : List (List Int) := fls.filter fun fl => agFrom fl 0 T
theorem agreeing_take (fls : List (List Int)) (T : List S93) {i : Nat} {fl : List Int} (h : fls[i]? = some fl) : agreeing (fls.take (i + 1)) T = if agFrom fl 0 T = true then agreeing (fls.take i) T ++ [fl] else agreeing (fls.take i) T := by
  obtain ⟨hi, he⟩ := List.getElem?_eq_some_iff.1 h
  unfold agreeing
  rw [List.take_succ_eq_append_getElem hi, List.filter_append, he]
  by_cases hb : agFrom fl 0 T = true
  · rw [if_pos hb]; simp [hb]
  · rw [if_neg hb]; simp [hb]
theorem fleets_in {W H : Nat} {ships : List Int} : ∀ (d : Nat) (list : List Int), InPl W H ships list → list.length + d = ships.length → ∀ fl ∈ fleetsFrom W H ships d list, InPl W H ships fl ∧ fl.length = ships.length
  | 0, list, hin, hd, fl, hfl => by
    have e : fl = list := by simpa [fleetsFrom] using hfl
    subst e
    exact ⟨hin, by omega⟩
  | d + 1, list, hin, hd, fl, hfl => by
    unfold fleetsFrom at hfl
    obtain ⟨own, ho, h2⟩ := List.mem_flatMap.1 hfl
    by_cases hg : goesV ships list own = true
    · rw [if_pos hg] at h2
      exact fleets_in d (list ++ [own]) (hin.snoc ho) (by simp; omega) fl h2
    · rw [if_neg hg] at h2
      cases h2
theorem inPl_num {W H : Nat} (hW : 1 ≤ W ∧ W ≤ 5) (hH : H ≤ 5) {ships : List Int} (hin : ∀ j : Nat, j < ships.length → inW (rd ships (j : Int)) 1 5 = true) {fl : List Int} (h : InPl W H ships fl) (hl : fl.length = ships.length) : ∀ x ∈ fl, ∃ m : Nat, x = (m : Int) ∧ m < 2 ^ (W * H) := fun x hx => by
  obtain ⟨j, hj, rfl⟩ := List.mem_iff_getElem.1 hx
  obtain ⟨n, hn, h1, _⟩ := inW_five (hin j (by omega))
  have := h j hj
  unfold placeOf at this
  rw [hn, Int.toNat_natCast] at this
  exact placesOf_bound hW.1 hW.2 hH h1 _ this
theorem cells_le {W H : Nat} (hW : W ≤ 5) (hH : H ≤ 5) : W * H ≤ 25 := Nat.mul_le_mul hW hH
theorem orAll_in {W H : Nat} (hW : 1 ≤ W ∧ W ≤ 5) (hH : H ≤ 5) {fl : List Int} (h : ∀ x ∈ fl, ∃ m : Nat, x = (m : Int) ∧ m < 2 ^ (W * H)) : ∃ V : Nat, orAll fl = (V : Int) ∧ V < 2 ^ (W * H) := orAll_nat (cells_le hW.2 hH) fl 0 (Nat.two_pow_pos _) h
theorem bit_add {V b c : Nat} (hV : V < 2 ^ b) (hb : b ≤ 25) (hc : c ≤ 64) : Go.bits .and .i64 (shr .i64 (V : Int) (c : Int)) 1 = if bitIn (V : Int) (c : Int) = true then 1 else 0 := by
  have h25 : 2 ^ b ≤ 33554432 := Nat.le_trans (Nat.pow_le_pow_right (by omega) hb) (by simp)
  unfold bitIn
  rw [bit_nat V c (Nat.lt_of_lt_of_le hV (Nat.le_trans h25 pow25_le)) hc]
  by_cases h : V.testBit c = true <;> simp [h]
/-- What lies there behind i fleets. -/
structure ShI (w00 : World) (g3 ga gb go co : Nat) (A3 : Option Addr) (c3 : Nat) (T : List S93) (N : Nat) (done : List (List Int)) (W : World) : Prop where
  below : Below w00.heap.size w00 W
  b3 : W.heap[g3]? = some (.cells #[.slice A3 T.length c3] 55 (0, 0))
  bb : W.heap[gb]? = some (.cells #[.slice (some ⟨go, 0, none⟩) N co] 22 (0, 0))
  ba : W.heap[ga]? = some (.cells #[.int .i64 (done.length : Int)] 2 (0, 0))
  row : Kd.R (Kd.int .i64) 2 W w00.heap.size (fun k => k = go) (.slice (some ⟨go, 0, none⟩) N co) (sharesV N done)
def ShareI (w00 : World) (g3 ga gb go co : Nat) (A3 : Option Addr) (c3 : Nat) (T : List S93) (N : Nat) (fleets : List (List Int)) (i : Nat) (M : Nat → Prop) (W : World) : Prop := M = (fun k => k = ga ∨ k = go) ∧ ShI w00 g3 ga gb go co A3 c3 T N (agreeing (fleets.take i) T) W
theorem share_ok {W0 H0 : Nat} (hW : 1 ≤ W0 ∧ W0 ≤ 5) (hH : 1 ≤ H0 ∧ H0 ≤ 5) {ships : List Int} (hs3 : ships.length ≤ 3) (hin : ∀ j : Nat, j < ships.length → inW (rd ships (j : Int)) 1 5 = true) {w00 : World} {g3 ga gb go co : Nat} {A3 : Option Addr} {c3 : Nat} {T : List S93} (hTl : T.length ≤ 1048576) (hTs : SeaCells (T.map fun x => x.f0)) (hne : ShNe w00 g3 ga gb go) (hT : Kd.C k93 w00 A3 T.length T) (hTc : T.length ≤ c3) (hf : (fleetsFrom W0 H0 ships ships.length []).length ≤ 1000000) :
    EachOk 0 112 #[.pointer (some ⟨g3, 0, none⟩), .pointer (some ⟨ga, 0, none⟩), .pointer (some ⟨gb, 0, none⟩)] (fleetsFrom W0 H0 ships ships.length []) (ShareI w00 g3 ga gb go co A3 c3 T (W0 * H0) (fleetsFrom W0 H0 ships ships.length [])) where
  stay := fun i M W W' h hb => ⟨h.1, ⟨below_step h.2.below hb, blk_below h.2.b3 hb, blk_below h.2.bb hb, blk_below h.2.ba hb, Kd.R_below h.2.row hb⟩⟩
  own := fun i M W h k hk => by
    rw [h.1] at hk
    rcases hk with rfl | rfl
    · exact blk_lt h.2.ba
    · exact Kd.R_lt h.2.row _ rfl
  call := fun i M W A c list h hl hcl hlc _ => by
    have hmem : list ∈ fleetsFrom W0 H0 ships ships.length [] := List.mem_of_getElem? hl
    obtain ⟨hpl, hlen⟩ := fleets_in ships.length [] InPl.nil (by simp) list hmem
    have hnum := inPl_num hW hH.2 hin hpl hlen
    have h25 : 2 ^ (W0 * H0) ≤ 33554432 := Nat.le_trans (Nat.pow_le_pow_right (by omega) (cells_le hW.2 hH.2)) (by simp)
    have hN : NumFleet list := fun x hx => by obtain ⟨m, e, hm⟩ := hnum x hx; exact ⟨m, e, Nat.lt_of_lt_of_le hm h25⟩
    obtain ⟨ka, hka⟩ := implAgrees_ev hN (by omega) T hTl hTs
    obtain ⟨kw, hkw⟩ := implWhole_ev list (by omega)
    obtain ⟨V, hV, hV2⟩ := orAll_in hW hH.2 hnum
    obtain ⟨hM, hS⟩ := h
    subst hM
    have hp : 0 < W0 * H0 := Nat.mul_pos (by omega) (by omega)
    have hc25 := cells_le hW.2 hH.2
    have hd : (agreeing ((fleetsFrom W0 H0 ships ships.length []).take i) T).length ≤ 1000000 := by
      unfold agreeing
      refine Nat.le_trans (List.length_filter_le _ _) ?_
      rw [List.length_take]
      omega
    refine (impl_Sea_shares_1.does w00 g3 ga gb go co A3 c3 T (W0 * H0) A list c (agreeing ((fleetsFrom W0 H0 ships ships.length []).take i) T) W ka kw hne hT hTc hlc ⟨hp, hc25⟩ hd (hka ka (Nat.le_refl _)) (hkw kw (Nat.le_refl _)) (fun j hj => by rw [hV]; exact bit_add hV2 hc25 (by omega)) ⟨hS.below, hS.b3, hS.bb, hS.ba, hS.row, hcl, Frame.refl _ _⟩).mono ?_
    rintro e w' ⟨rfl, hE⟩
    rw [← agreeing_take _ T hl] at hE
    exact ⟨rfl, _, ⟨rfl, ⟨hE.below, hE.b3, hE.bb, hE.ba, hE.row⟩⟩, hE.fr.x⟩
theorem chosen_step {V N : Nat} (hV : V < 2 ^ N) (hN : N ≤ 25) {j : Nat} (h : j < (chosenTo (bitIn (V : Int)) 25).length) : ∃ c : Nat, (chosenTo (bitIn (V : Int)) 25)[j] = (c : Int) ∧ c < N ∧ (c : Int) ∉ (chosenTo (bitIn (V : Int)) 25).take j := by
  obtain ⟨h0, h1, h2⟩ := (chosen_iff _ _ _).1 (List.getElem_mem h)
  obtain ⟨c, hc⟩ : ∃ c : Nat, (chosenTo (bitIn (V : Int)) 25)[j] = (c : Int) := ⟨((chosenTo (bitIn (V : Int)) 25)[j]).toNat, by omega⟩
  rw [hc] at h0 h1 h2
  refine ⟨c, hc, ?_, fun hm => ?_⟩
  · refine Nat.lt_of_not_le (fun hle => ?_)
    rw [bitIn_high hV hN hle (by omega)] at h2
    cases h2
  · obtain ⟨i, hi, he⟩ := List.mem_iff_getElem.1 hm
    rw [List.length_take] at hi
    rw [List.getElem_take, ← hc] at he
    have := asc_lt _ 0 (chosen_asc (bitIn (V : Int)) 25) i j (by omega) h (by omega)
    omega
/-- What a fleet that agrees adds. -/
structure FleetNum (N : Nat) (fl : List Int) : Prop where
  len : fl.length ≤ 1000
  all : ∃ V : Nat, orAll fl = (V : Int) ∧ V < 2 ^ N
theorem fleets_num {W H : Nat} (hW : 1 ≤ W ∧ W ≤ 5) (hH : 1 ≤ H ∧ H ≤ 5) {ships : List Int} (hs3 : ships.length ≤ 3) (hin : ∀ j : Nat, j < ships.length → inW (rd ships (j : Int)) 1 5 = true) (T : List S93) : ∀ fl ∈ agreeing (fleetsFrom W H ships ships.length []) T, FleetNum (W * H) fl := fun fl h => by
  obtain ⟨hpl, hlen⟩ := fleets_in ships.length [] InPl.nil (by simp) fl (List.mem_filter.1 h).1
  exact ⟨by omega, orAll_in hW hH.2 (inPl_num hW hH.2 hin hpl hlen)⟩
/-! ### impl_Sea_shares: function 90 -/
-- EXTERNAL: by hand
-- impl_Sea_cells impl_Sea_eachFleet
-- EachOk ShI share_ok agreeing fleetsOf seaV_nat sea_ships sharesV_nil
def shotsIn (T : List S93) : Bool := T.all fun x => decide (0 ≤ x.f0) && decide (x.f0 ≤ 24)
theorem shotsIn_sea {T : List S93} (h : shotsIn T = true) : SeaCells (T.map fun x => x.f0) := fun x hx => by
  obtain ⟨y, hy, rfl⟩ := List.mem_map.1 hx
  have := List.all_eq_true.1 h y hy
  simpa using this
def impl_Sea_shares.f (a0_0 a0_1 : Int) (l0_2 : List Int) (l1 : List S93) : Option (Int × List Int) := if seaV a0_0 a0_1 l0_2 = true ∧ shotsIn l1 = true ∧ l1.length ≤ 1048576 then some (((agreeing (fleetsOf a0_0 a0_1 l0_2) l1).length : Int), sharesV (a0_0.toNat * a0_1.toNat) (agreeing (fleetsOf a0_0 a0_1 l0_2) l1)) else none
theorem blk_types_ne {W : World} {g g' t t' : Nat} {cs cs' : Array Value} (h : W.heap[g]? = some (.cells cs t (0, 0))) (h' : W.heap[g']? = some (.cells cs' t' (0, 0))) (ht : t ≠ t') : g ≠ g' := fun e => by
  subst e
  rw [h] at h'
  injection h' with h'
  injection h' with _ h2
  exact ht h2
theorem row_ne {W : World} {g t base go n co : Nat} {cs : Array Value} {ok : Nat → Prop} {xs : List Int} (h : W.heap[g]? = some (.cells cs t (0, 0))) (ho : Kd.R (Kd.int .i64) 2 W base ok (.slice (some ⟨go, 0, none⟩) n co) xs) (ht : 2 ≠ t) : g ≠ go := fun e => Kd.R_ne ho h ht (by rw [e]; rfl)
theorem share_start {w W : World} {g3 ga gb go co N : Nat} {A3 : Option Addr} {c3 : Nat} {T : List S93} (h3 : W.heap[g3]? = some (.cells #[.slice A3 T.length c3] 55 (0, 0))) (hC : W.heap[gb]? = some (.cells #[.slice none 0 0] 22 (0, 0))) (hA : W.heap[ga]? = some (.cells #[.int .i64 0] 2 (0, 0)))
    (ho : Kd.R (Kd.int .i64) 2 W w.heap.size (fun _ => True) (.slice (some ⟨go, 0, none⟩) N co) (sharesV N [])) (hB : Below w.heap.size w W) (hne : ShNe w g3 ga gb go) (hz : w.heap.size ≤ gb) : ShI w g3 ga gb go co A3 c3 T N [] (W.setCell ⟨gb, 0, none⟩ (.slice (some ⟨go, 0, none⟩) N co)) where
  below := below_set hB hz
  b3 := blk_far (p := ⟨gb, 0, none⟩) h3 (blk_types_ne h3 hC (by decide)) _
  bb := blk_put hC 0 _ rfl
  ba := blk_far (p := ⟨gb, 0, none⟩) hA (fun e => hne.ab e.symm) _
  row := Kd.R_mono (Kd.R_far (p := ⟨gb, 0, none⟩) (Kd.R_tight rfl ho) (fun k hk e => by subst e; injection hk with hk; exact hne.ob hk) _) (fun k hk => by injection hk)
theorem share_each (W0 H0 : Nat) (ships : List Int) (A2 : Option Addr) (c2 : Nat) (hw : 1 ≤ W0 ∧ W0 ≤ 5) (hh : 1 ≤ H0 ∧ H0 ≤ 5) (hsz : 1 ≤ ships.length ∧ ships.length ≤ 3) (hsin : ∀ j : Nat, j < ships.length → inW (rd ships (j : Int)) 1 5 = true) (hsc : ships.length ≤ c2)
    {w W : World} {g3 ga gb go co : Nat} {A3 : Option Addr} {c3 : Nat} {T : List S93} (hTl : T.length ≤ 1048576) (hTs : SeaCells (T.map fun x => x.f0)) (hne : ShNe w g3 ga gb go) (hT : Kd.C k93 w A3 T.length T) (hTc : T.length ≤ c3) (hR : Kd.C (Kd.int .i64) w A2 ships.length ships) {N : Nat} (hN : W0 * H0 = N) (hS : ShI w g3 ga gb go co A3 c3 T N [] W) :
    Calls Try.prog 65 #[.agg #[.int .i64 (W0 : Int), .int .i64 (H0 : Int), .slice A2 ships.length c2], .func (.func 112) #[] #[.pointer (some ⟨g3, 0, none⟩), .pointer (some ⟨ga, 0, none⟩), .pointer (some ⟨gb, 0, none⟩)]] W fun e w' => e = .returned (.tuple #[]) ∧ ShI w g3 ga gb go co A3 c3 T N (agreeing (fleetsFrom W0 H0 ships ships.length []) T) w' := by
  subst hN
  have eg112 : ∀ args w, (callFunc 112 args).run Try.prog w = .ok (.enter 112 args) w := enters_of Try.func112 (by kernel_rfl) rfl
  have hpl : ∀ j, (placeOf W0 H0 ships j).length ≤ 100 := fun j => placeOf_len hw.2 hh.2 ships j
  have hfl : (fleetsFrom W0 H0 ships ships.length []).length ≤ 1000000 := by
    refine Nat.le_trans (fleets_len W0 H0 ships hpl ships.length []) ?_
    exact Nat.le_trans (Nat.pow_le_pow_right (by omega) hsz.2) (by simp)
  have hclr : Clear (fun k => k = ga ∨ k = go) W A2 ships := by
    refine ⟨Kd.C_below hR hS.below, fun h0 a ha => ?_⟩
    subst ha
    obtain ⟨b, e, hcb⟩ := Kd.at_int hR 0 (by omega) (by omega)
    injection e with e
    subst e
    have h1 := World.block_lt_of_cell? _ _ hcb
    rw [add_block] at h1
    exact ⟨Nat.lt_of_lt_of_le h1 hS.below.size, fun h => by have := hne.za; have := hne.zo; rcases h with h | h <;> omega⟩
  refine (impl_Sea_eachFleet.does W0 H0 ships A2 c2 112 #[.pointer (some ⟨g3, 0, none⟩), .pointer (some ⟨ga, 0, none⟩), .pointer (some ⟨gb, 0, none⟩)] (ShareI w g3 ga gb go co A3 c3 T (W0 * H0) (fleetsFrom W0 H0 ships ships.length [])) 0 eg112 (share_ok hw hh hsz.2 hsin hTl hTs hne hT hTc hfl) hw hh hsz hsin hsc hpl W (Nat.zero_le _) (fun k => k = ga ∨ k = go) ⟨rfl, hS⟩ hclr).mono ?_
  rintro e w' ⟨rfl, M', hi, hf⟩
  have hi2 := hi.2
  rw [List.take_length] at hi2
  exact ⟨rfl, hi2⟩
def impl_Sea_shares.T1 : Bool × List (List Nat × List Nat) := (true, [([], []), ([0], [0]), ([1, 1], [1]), ([], []), ([], []), ([3, 1, 3, 4], [3]), ([4, 2, 5, 0, 1, 2, 3, 4, 5], [2, 4])])
def impl_Sea_shares.B1 : List Nat := [0, 1, 3, 0, 0, 27, 63]
theorem impl_Sea_shares.tab1 : rtab .any (opsOf Try.f90 1) = impl_Sea_shares.T1 := by kernel_rfl
theorem impl_Sea_shares.bits1 : waitsOk impl_Sea_shares.T1.2 impl_Sea_shares.B1 = true := by kernel_rfl
theorem wrap_nat_ {N : Nat} (h : N ≤ 25) : wrap64 (N : Int) = (N : Int) := by unfold wrap64; omega
set_option maxHeartbeats 16000000 in
set_option maxRecDepth 100000 in
theorem impl_Sea_shares.calls (a0_0 a0_1 : Int) (A2 : Option Addr) (c2 : Nat) (ships : List Int) (A3 : Option Addr) (c3 : Nat) (T : List S93) (r1 : Int) (r2 : List Int) (w : World) (hr0_2 : Kd.C (Kd.int .i64) w A2 ships.length ships) (hc0_2 : ships.length ≤ c2) (hr1 : Kd.C k93 w A3 T.length T) (hc1 : T.length ≤ c3) (h : impl_Sea_shares.f a0_0 a0_1 ships T = some (r1, r2)) :
    Calls Try.prog 90 #[.agg #[.int .i64 a0_0, .int .i64 a0_1, .slice A2 ships.length c2], .slice A3 T.length c3] w fun e w' => ∃ v1_ : Value, e = .returned (.tuple #[.int .i64 r1, v1_]) ∧ Kd.R (Kd.int .i64) 2 w' w.heap.size (fun _ => True) v1_ r2 ∧ Below w.heap.size w w' := by
  unfold impl_Sea_shares.f at h
  split at h
  case isFalse => cases h
  rename_i hs
  simp only [Option.some.injEq, Prod.mk.injEq] at h
  obtain ⟨hr1_, hr2_⟩ := h
  obtain ⟨hs, hsi, hTl⟩ := hs
  obtain ⟨⟨W0, rfl, hw1, hw5⟩, ⟨H0, rfl, hh1, hh5⟩, hs1, hs3⟩ := seaV_nat hs
  have HW := Aside0.mk (And.intro hw1 hw5)
  have HH := Aside0.mk (And.intro hh1 hh5)
  have HSz := Aside0.mk (And.intro hs1 hs3)
  have HSI := Aside0.mk (sea_ships hs)
  have HTl := Aside0.mk hTl
  have HTs := Aside0.mk (shotsIn_sea hsi)
  have HT0 := Aside0.mk hr1
  have HTc := Aside0.mk hc1
  have HSh := Aside0.mk hr0_2
  have HC2 := Aside0.mk hc0_2
  unfold fleetsOf at hr1_ hr2_
  simp only [Int.toNat_natCast] at hr1_ hr2_
  obtain ⟨D, hD⟩ : ∃ D, agreeing (fleetsFrom W0 H0 ships ships.length []) T = D := ⟨_, rfl⟩
  rw [hD] at hr1_ hr2_
  have HDn := Aside0.mk hD
  obtain ⟨N, hN⟩ : ∃ N, W0 * H0 = N := ⟨_, rfl⟩
  rw [hN] at hr2_
  have HNN0 := Aside0.mk hN
  have hN25 : N ≤ 25 := by rw [← hN]; exact cells_le hw5 hh5
  have HNp := Aside0.mk (show 0 < N by rw [← hN]; exact Nat.mul_pos (by omega) (by omega))
  have HN0 := Aside0.mk (show (0 : Int) ≤ (N : Int) by omega)
  have HN8 := Aside0.mk (show ((N : Int)).toNat * 8 ≤ 281474976710656 by rw [Int.toNat_natCast]; omega)
  have HCel := Aside0.mk (show impl_Sea_cells.f (W0 : Int) (H0 : Int) ships = some (N : Int) by
    unfold impl_Sea_cells.f
    rw [show (W0 : Int) * (H0 : Int) = (N : Int) by rw [← hN, Int.natCast_mul], wrap_nat_ hN25])
  subst hr1_ hr2_
  have hu28 := Try.underlying28
  clear hr0_2 hc0_2 hr1 hc1 hs hsi hTl hw1 hw5 hh1 hh5 hs1 hs3 hD hN hN25
  go_enter Try.func90, Try.ntmps90
  go_wp2_with (first | ((with_reducible refine gate_dst (N := 2) rfl ?_); refine box_event ?hg (N := 2) ?hd (cs := #[.int .i64 (W0 : Int), .int .i64 (H0 : Int), .slice A2 ships.length c2]) (t := 28) ?hr ?_; (case hd => rfl); (case hg => rfl); (case hr => first | (go_simp; done) | (go_simp; rfl)); intro g2 hg2 w1 hbox hb; have H2 := Aside0.mk hbox; have HB := Aside0.mk hb; clear hbox hb hg2) | ((with_reducible refine gate_dst (N := 3) rfl ?_); refine box_event ?hg (N := 3) ?hd (cs := #[.slice A3 T.length c3]) (t := 55) ?hr ?_; (case hd => rfl); (case hg => rfl); (case hr => first | (go_simp; done) | (go_simp; rfl)); intro g3 hg3 w2 hbox hb; have H3 := Aside0.mk hbox; have n1_ := Aside0.mk (blk_below H2.out hb); have n2_ := Aside0.mk (below_step HB.out hb); clear H2 HB hbox hb hg3; have H2 := n1_; have HB := n2_; clear n1_ n2_))
  have u2_ := Aside0.mk (blk_drew H2.out)
  have u3_ := Aside0.mk (blk_drew H3.out)
  have uB_ := Aside0.mk (below_drew1 HB.out)
  clear H2 H3 HB
  have H2 := u2_
  have H3 := u3_
  have HB := uB_
  clear u2_ u3_ uB_
  refine start_ (n := 7) (S := fun w' => w'.cell? ⟨g2, 0, none⟩ = some (.int .i64 (W0 : Int)) ∧ w'.cell? ⟨g2, 1, none⟩ = some (.int .i64 (H0 : Int)) ∧ w'.cell? ⟨g2, 2, none⟩ = some (.slice A2 ships.length c2)) (ds := [6]) #[false, false, false, false, false, false, false] (by kernel_rfl) rfl rfl ⟨(blk_cell H2.out 0).trans rfl, (blk_cell H2.out 1).trans rfl, (blk_cell H2.out 2).trans rfl⟩ (fun hHeld => ?_)
  refine with_tabW impl_Sea_shares.tab1 impl_Sea_shares.bits1 (fun HT_ HW_ => ?_)
  generalize hq_ : w2.drew = wd_ at H2 H3 HB hHeld ⊢
  clear hq_
  refine take_ (i := 0) (N := some 8) (v := ?_) (a' := ?_) (flg_ 7 1) rfl rfl (take_ofW HT_.out HW_.out (by kernel_rfl)) (fun _ _ _ h => h) (Or.inl ⟨by rfl, ?_⟩) hHeld ?_ ?_
  rotate_left
  · rintro w' ⟨s0_, s1_, s2_⟩
    go_simp
    with_reducible rfl
  rotate_left
  · simp only [Act.put, sz_, s0_, s1_, i64_w, i32_w]
    rfl
  all_goals first
    | (refine three_ (l := #[true, false, false, false, false, false, false]) (i := 1) (j := 3) (k := 4) (Ni := some 9) (Nj := some 6) (Nk := some 7) #[true, true, false, false, false, false, false] #[true, false, false, true, false, false, false] #[true, false, false, false, true, false, false] rfl rfl rfl rfl rfl rfl (three_of HT_.out (by kernel_rfl)) (by decide) (by decide) (by decide) (fun K hK => ?_) (fun K hK => ?_) (fun K hK => ?_))
  all_goals first
    | (refine goes_ (N := some 9) Try.func73 (by kernel_rfl) rfl #[.agg #[.int .i64 (W0 : Int), .int .i64 (H0 : Int), .slice A2 ships.length c2]] (by rfl) rfl rfl (by (try simp only [List.map_toArray, List.map_cons, List.map_nil]); first | done | rfl) ?_; refine (impl_Sea_cells.calls (W0 : Int) (H0 : Int) A2 c2 ships (N : Int) wd_ (Kd.C_below HSh.out HB.out) HC2.out HCel.out).mono ?_; rintro e wd_ ⟨rfl, hb⟩; refine ⟨_, rfl, ?_⟩; (try (have u_ := Aside0.mk (blk_below H2.out hb); clear H2; have H2 := u_; clear u_)); (try (have u_ := Aside0.mk (blk_below H3.out hb); clear H3; have H3 := u_; clear u_)); (try (have u_ := Aside0.mk (below_step HB.out hb); clear HB; have HB := u_; clear u_)); (try (have u_ := Aside0.mk (Kd.R_below HO.out hb); clear HO; have HO := u_; clear u_)); (try (have u_ := Aside0.mk (blk_below HA.out hb); clear HA; have HA := u_; clear u_)); (try (have u_ := Aside0.mk (blk_below HC.out hb); clear HC; have HC := u_; clear u_)); clear hb; refine hK.out _ _ ⟨(blk_cell H2.out 0).trans rfl, (blk_cell H2.out 1).trans rfl, (blk_cell H2.out 2).trans rfl⟩ (fun hHeld => ?_); clear hK K; refine norm_ (a' := ?_) ?_ ?_; rotate_left; (· (show Act.put _ (some 9) _ = _; simp only [Act.put, sz_, s0_, s1_, i64_w, i32_w]; rfl)))
    | (refine value_ (N := some 6) (w1 := wd_.alloc (.cells #[.int .i64 0] 2 (0, 0))) (v := .pointer (some ⟨wd_.heap.size, 0, none⟩)) (by rfl) rfl ?_ ?_; (· (go_simp; (try rfl))); have hb := below_alloc (Below.refl wd_.heap.size wd_) (.cells #[.int .i64 0] 2 (0, 0)); have hnw := blk_new wd_ (.cells #[.int .i64 0] 2 (0, 0)); have hz := below_size HB.out; (try have HNN := Aside0.mk (show wd_.heap.size ≠ go by have := Kd.R_lt HO.out go rfl; omega)); (try (have u_ := Aside0.mk (blk_below H2.out hb); clear H2; have H2 := u_; clear u_)); (try (have u_ := Aside0.mk (blk_below H3.out hb); clear H3; have H3 := u_; clear u_)); (try (have u_ := Aside0.mk (below_step HB.out hb); clear HB; have HB := u_; clear u_)); (try (have u_ := Aside0.mk (Kd.R_below HO.out hb); clear HO; have HO := u_; clear u_)); (try (have u_ := Aside0.mk (blk_below HA.out hb); clear HA; have HA := u_; clear u_)); (try (have u_ := Aside0.mk (blk_below HC.out hb); clear HC; have HC := u_; clear u_)); clear hb; generalize wd_.alloc (.cells #[.int .i64 0] 2 (0, 0)) = wx_ at *; generalize wd_.heap.size = ga at *; have HA := Aside0.mk hnw; have HZA := Aside0.mk hz; clear hnw hz; refine hK.out _ _ ⟨(blk_cell H2.out 0).trans rfl, (blk_cell H2.out 1).trans rfl, (blk_cell H2.out 2).trans rfl⟩ (fun hHeld => ?_); clear hK K; refine norm_ (a' := ?_) ?_ ?_; rotate_left; (· (show Act.put _ (some 6) _ = _; simp only [Act.put, sz_, s0_, s1_, i64_w, i32_w]; rfl)); (try clear wd_); generalize wx_ = wd_ at *)
    | (refine value_ (N := some 7) (w1 := wd_.alloc (.cells #[.slice none 0 0] 22 (0, 0))) (v := .pointer (some ⟨wd_.heap.size, 0, none⟩)) (by rfl) rfl ?_ ?_; (· (go_simp; (try rfl))); have hb := below_alloc (Below.refl wd_.heap.size wd_) (.cells #[.slice none 0 0] 22 (0, 0)); have hnw := blk_new wd_ (.cells #[.slice none 0 0] 22 (0, 0)); have hz := below_size HB.out; (try (have u_ := Aside0.mk (blk_below H2.out hb); clear H2; have H2 := u_; clear u_)); (try (have u_ := Aside0.mk (blk_below H3.out hb); clear H3; have H3 := u_; clear u_)); (try (have u_ := Aside0.mk (below_step HB.out hb); clear HB; have HB := u_; clear u_)); (try (have u_ := Aside0.mk (Kd.R_below HO.out hb); clear HO; have HO := u_; clear u_)); (try (have u_ := Aside0.mk (blk_below HA.out hb); clear HA; have HA := u_; clear u_)); (try (have u_ := Aside0.mk (blk_below HC.out hb); clear HC; have HC := u_; clear u_)); clear hb; generalize wd_.alloc (.cells #[.slice none 0 0] 22 (0, 0)) = wx_ at *; generalize wd_.heap.size = gb at *; have HC := Aside0.mk hnw; have HZB := Aside0.mk hz; clear hnw hz; refine hK.out _ _ ⟨(blk_cell H2.out 0).trans rfl, (blk_cell H2.out 1).trans rfl, (blk_cell H2.out 2).trans rfl⟩ (fun hHeld => ?_); clear hK K; refine norm_ (a' := ?_) ?_ ?_; rotate_left; (· (show Act.put _ (some 7) _ = _; simp only [Act.put, sz_, s0_, s1_, i64_w, i32_w]; rfl)); (try clear wd_); generalize wx_ = wd_ at *)
  all_goals first
    | (refine three_ (l := #[true, true, false, false, false, false, false]) (i := 2) (j := 3) (k := 4) (Ni := some 10) (Nj := some 6) (Nk := some 7) #[true, true, true, false, false, false, false] #[true, true, false, true, false, false, false] #[true, true, false, false, true, false, false] rfl rfl rfl rfl rfl rfl (three_of HT_.out (by kernel_rfl)) (by decide) (by decide) (by decide) (fun K hK => ?_) (fun K hK => ?_) (fun K hK => ?_))
    | (refine two_ (l := #[true, false, false, true, false, false, false]) (i := 1) (j := 4) (Ni := some 9) (Nj := some 7) #[true, true, false, true, false, false, false] #[true, false, false, true, true, false, false] rfl rfl rfl rfl (two_of HT_.out (by kernel_rfl)) (by decide) (by decide) (fun K hK => ?_) (fun K hK => ?_))
    | (refine two_ (l := #[true, false, false, false, true, false, false]) (i := 1) (j := 3) (Ni := some 9) (Nj := some 6) #[true, true, false, false, true, false, false] #[true, false, false, true, true, false, false] rfl rfl rfl rfl (two_of HT_.out (by kernel_rfl)) (by decide) (by decide) (fun K hK => ?_) (fun K hK => ?_))
  all_goals first
    | (refine goes_ (N := some 9) Try.func73 (by kernel_rfl) rfl #[.agg #[.int .i64 (W0 : Int), .int .i64 (H0 : Int), .slice A2 ships.length c2]] (by rfl) rfl rfl (by (try simp only [List.map_toArray, List.map_cons, List.map_nil]); first | done | rfl) ?_; refine (impl_Sea_cells.calls (W0 : Int) (H0 : Int) A2 c2 ships (N : Int) wd_ (Kd.C_below HSh.out HB.out) HC2.out HCel.out).mono ?_; rintro e wd_ ⟨rfl, hb⟩; refine ⟨_, rfl, ?_⟩; (try (have u_ := Aside0.mk (blk_below H2.out hb); clear H2; have H2 := u_; clear u_)); (try (have u_ := Aside0.mk (blk_below H3.out hb); clear H3; have H3 := u_; clear u_)); (try (have u_ := Aside0.mk (below_step HB.out hb); clear HB; have HB := u_; clear u_)); (try (have u_ := Aside0.mk (Kd.R_below HO.out hb); clear HO; have HO := u_; clear u_)); (try (have u_ := Aside0.mk (blk_below HA.out hb); clear HA; have HA := u_; clear u_)); (try (have u_ := Aside0.mk (blk_below HC.out hb); clear HC; have HC := u_; clear u_)); clear hb; refine hK.out _ _ ⟨(blk_cell H2.out 0).trans rfl, (blk_cell H2.out 1).trans rfl, (blk_cell H2.out 2).trans rfl⟩ (fun hHeld => ?_); clear hK K; refine norm_ (a' := ?_) ?_ ?_; rotate_left; (· (show Act.put _ (some 9) _ = _; simp only [Act.put, sz_, s0_, s1_, i64_w, i32_w]; rfl)))
    | (refine Kd.R_make_step (Kd.int .i64) _ 2 (by rfl) (N := 10) rfl 22 _ _ rfl (N : Int) rfl rfl Try.underlying22 (.int .i64 0) 8 info2 rfl (by decide) (by omega) 0 (ok := fun _ => True) (okp := fun _ => True) rfl (fun _ hk => hk) trivial HN0.out HN8.out (Below.refl _ _) (Nat.le_refl _) ?_; intro v10 wd_ ho hb hg_ hnew_; clear hg_ hnew_; rw [Int.toNat_natCast, ← sharesV_nil] at ho; obtain ⟨go, co, e10, hgo_, _, _⟩ := Kd.R_form ho (by rw [sharesV_len]; exact HNp.out); rw [sharesV_len] at e10; subst e10; (try have HNN := Aside0.mk (show ga ≠ go by have := blk_lt HA.out; omega)); have HZO := Aside0.mk (show w.heap.size ≤ go by have := below_size HB.out; omega); clear hgo_; have uO0_ := Aside0.mk (Kd.R_lower ho (below_size HB.out)); clear ho; (try (have u_ := Aside0.mk (blk_below H2.out hb); clear H2; have H2 := u_; clear u_)); (try (have u_ := Aside0.mk (blk_below H3.out hb); clear H3; have H3 := u_; clear u_)); (try (have u_ := Aside0.mk (below_step HB.out hb); clear HB; have HB := u_; clear u_)); (try (have u_ := Aside0.mk (Kd.R_below HO.out hb); clear HO; have HO := u_; clear u_)); (try (have u_ := Aside0.mk (blk_below HA.out hb); clear HA; have HA := u_; clear u_)); (try (have u_ := Aside0.mk (blk_below HC.out hb); clear HC; have HC := u_; clear u_)); clear hb; have HO := uO0_; clear uO0_; refine hK.out _ _ ⟨(blk_cell H2.out 0).trans rfl, (blk_cell H2.out 1).trans rfl, (blk_cell H2.out 2).trans rfl⟩ (fun hHeld => ?_); clear hK K; refine norm_ (a' := ?_) ?_ ?_; rotate_left; (· (show Act.put _ (some 10) _ = _; simp only [Act.put, sz_, s0_, s1_, i64_w, i32_w]; rfl)))
    | (refine value_ (N := some 6) (w1 := wd_.alloc (.cells #[.int .i64 0] 2 (0, 0))) (v := .pointer (some ⟨wd_.heap.size, 0, none⟩)) (by rfl) rfl ?_ ?_; (· (go_simp; (try rfl))); have hb := below_alloc (Below.refl wd_.heap.size wd_) (.cells #[.int .i64 0] 2 (0, 0)); have hnw := blk_new wd_ (.cells #[.int .i64 0] 2 (0, 0)); have hz := below_size HB.out; (try have HNN := Aside0.mk (show wd_.heap.size ≠ go by have := Kd.R_lt HO.out go rfl; omega)); (try (have u_ := Aside0.mk (blk_below H2.out hb); clear H2; have H2 := u_; clear u_)); (try (have u_ := Aside0.mk (blk_below H3.out hb); clear H3; have H3 := u_; clear u_)); (try (have u_ := Aside0.mk (below_step HB.out hb); clear HB; have HB := u_; clear u_)); (try (have u_ := Aside0.mk (Kd.R_below HO.out hb); clear HO; have HO := u_; clear u_)); (try (have u_ := Aside0.mk (blk_below HA.out hb); clear HA; have HA := u_; clear u_)); (try (have u_ := Aside0.mk (blk_below HC.out hb); clear HC; have HC := u_; clear u_)); clear hb; generalize wd_.alloc (.cells #[.int .i64 0] 2 (0, 0)) = wx_ at *; generalize wd_.heap.size = ga at *; have HA := Aside0.mk hnw; have HZA := Aside0.mk hz; clear hnw hz; refine hK.out _ _ ⟨(blk_cell H2.out 0).trans rfl, (blk_cell H2.out 1).trans rfl, (blk_cell H2.out 2).trans rfl⟩ (fun hHeld => ?_); clear hK K; refine norm_ (a' := ?_) ?_ ?_; rotate_left; (· (show Act.put _ (some 6) _ = _; simp only [Act.put, sz_, s0_, s1_, i64_w, i32_w]; rfl)); (try clear wd_); generalize wx_ = wd_ at *)
    | (refine value_ (N := some 7) (w1 := wd_.alloc (.cells #[.slice none 0 0] 22 (0, 0))) (v := .pointer (some ⟨wd_.heap.size, 0, none⟩)) (by rfl) rfl ?_ ?_; (· (go_simp; (try rfl))); have hb := below_alloc (Below.refl wd_.heap.size wd_) (.cells #[.slice none 0 0] 22 (0, 0)); have hnw := blk_new wd_ (.cells #[.slice none 0 0] 22 (0, 0)); have hz := below_size HB.out; (try (have u_ := Aside0.mk (blk_below H2.out hb); clear H2; have H2 := u_; clear u_)); (try (have u_ := Aside0.mk (blk_below H3.out hb); clear H3; have H3 := u_; clear u_)); (try (have u_ := Aside0.mk (below_step HB.out hb); clear HB; have HB := u_; clear u_)); (try (have u_ := Aside0.mk (Kd.R_below HO.out hb); clear HO; have HO := u_; clear u_)); (try (have u_ := Aside0.mk (blk_below HA.out hb); clear HA; have HA := u_; clear u_)); (try (have u_ := Aside0.mk (blk_below HC.out hb); clear HC; have HC := u_; clear u_)); clear hb; generalize wd_.alloc (.cells #[.slice none 0 0] 22 (0, 0)) = wx_ at *; generalize wd_.heap.size = gb at *; have HC := Aside0.mk hnw; have HZB := Aside0.mk hz; clear hnw hz; refine hK.out _ _ ⟨(blk_cell H2.out 0).trans rfl, (blk_cell H2.out 1).trans rfl, (blk_cell H2.out 2).trans rfl⟩ (fun hHeld => ?_); clear hK K; refine norm_ (a' := ?_) ?_ ?_; rotate_left; (· (show Act.put _ (some 7) _ = _; simp only [Act.put, sz_, s0_, s1_, i64_w, i32_w]; rfl)); (try clear wd_); generalize wx_ = wd_ at *)
  all_goals first
    | (refine two_ (l := #[true, true, true, false, false, false, false]) (i := 3) (j := 4) (Ni := some 6) (Nj := some 7) #[true, true, true, true, false, false, false] #[true, true, true, false, true, false, false] rfl rfl rfl rfl (two_of HT_.out (by kernel_rfl)) (by decide) (by decide) (fun K hK => ?_) (fun K hK => ?_))
    | (refine two_ (l := #[true, true, false, true, false, false, false]) (i := 2) (j := 4) (Ni := some 10) (Nj := some 7) #[true, true, true, true, false, false, false] #[true, true, false, true, true, false, false] rfl rfl rfl rfl (two_of HT_.out (by kernel_rfl)) (by decide) (by decide) (fun K hK => ?_) (fun K hK => ?_))
    | (refine two_ (l := #[true, true, false, false, true, false, false]) (i := 2) (j := 3) (Ni := some 10) (Nj := some 6) #[true, true, true, false, true, false, false] #[true, true, false, true, true, false, false] rfl rfl rfl rfl (two_of HT_.out (by kernel_rfl)) (by decide) (by decide) (fun K hK => ?_) (fun K hK => ?_))
    | (refine one_ (l := #[true, false, false, true, true, false, false]) (i := 1) (N := some 9) #[true, true, false, true, true, false, false] rfl rfl (one_of HT_.out (by kernel_rfl)) (by decide) (fun K hK => ?_))
  all_goals first
    | (refine goes_ (N := some 9) Try.func73 (by kernel_rfl) rfl #[.agg #[.int .i64 (W0 : Int), .int .i64 (H0 : Int), .slice A2 ships.length c2]] (by rfl) rfl rfl (by (try simp only [List.map_toArray, List.map_cons, List.map_nil]); first | done | rfl) ?_; refine (impl_Sea_cells.calls (W0 : Int) (H0 : Int) A2 c2 ships (N : Int) wd_ (Kd.C_below HSh.out HB.out) HC2.out HCel.out).mono ?_; rintro e wd_ ⟨rfl, hb⟩; refine ⟨_, rfl, ?_⟩; (try (have u_ := Aside0.mk (blk_below H2.out hb); clear H2; have H2 := u_; clear u_)); (try (have u_ := Aside0.mk (blk_below H3.out hb); clear H3; have H3 := u_; clear u_)); (try (have u_ := Aside0.mk (below_step HB.out hb); clear HB; have HB := u_; clear u_)); (try (have u_ := Aside0.mk (Kd.R_below HO.out hb); clear HO; have HO := u_; clear u_)); (try (have u_ := Aside0.mk (blk_below HA.out hb); clear HA; have HA := u_; clear u_)); (try (have u_ := Aside0.mk (blk_below HC.out hb); clear HC; have HC := u_; clear u_)); clear hb; refine hK.out _ _ ⟨(blk_cell H2.out 0).trans rfl, (blk_cell H2.out 1).trans rfl, (blk_cell H2.out 2).trans rfl⟩ (fun hHeld => ?_); clear hK K; refine norm_ (a' := ?_) ?_ ?_; rotate_left; (· (show Act.put _ (some 9) _ = _; simp only [Act.put, sz_, s0_, s1_, i64_w, i32_w]; rfl)))
    | (refine Kd.R_make_step (Kd.int .i64) _ 2 (by rfl) (N := 10) rfl 22 _ _ rfl (N : Int) rfl rfl Try.underlying22 (.int .i64 0) 8 info2 rfl (by decide) (by omega) 0 (ok := fun _ => True) (okp := fun _ => True) rfl (fun _ hk => hk) trivial HN0.out HN8.out (Below.refl _ _) (Nat.le_refl _) ?_; intro v10 wd_ ho hb hg_ hnew_; clear hg_ hnew_; rw [Int.toNat_natCast, ← sharesV_nil] at ho; obtain ⟨go, co, e10, hgo_, _, _⟩ := Kd.R_form ho (by rw [sharesV_len]; exact HNp.out); rw [sharesV_len] at e10; subst e10; (try have HNN := Aside0.mk (show ga ≠ go by have := blk_lt HA.out; omega)); have HZO := Aside0.mk (show w.heap.size ≤ go by have := below_size HB.out; omega); clear hgo_; have uO0_ := Aside0.mk (Kd.R_lower ho (below_size HB.out)); clear ho; (try (have u_ := Aside0.mk (blk_below H2.out hb); clear H2; have H2 := u_; clear u_)); (try (have u_ := Aside0.mk (blk_below H3.out hb); clear H3; have H3 := u_; clear u_)); (try (have u_ := Aside0.mk (below_step HB.out hb); clear HB; have HB := u_; clear u_)); (try (have u_ := Aside0.mk (Kd.R_below HO.out hb); clear HO; have HO := u_; clear u_)); (try (have u_ := Aside0.mk (blk_below HA.out hb); clear HA; have HA := u_; clear u_)); (try (have u_ := Aside0.mk (blk_below HC.out hb); clear HC; have HC := u_; clear u_)); clear hb; have HO := uO0_; clear uO0_; refine hK.out _ _ ⟨(blk_cell H2.out 0).trans rfl, (blk_cell H2.out 1).trans rfl, (blk_cell H2.out 2).trans rfl⟩ (fun hHeld => ?_); clear hK K; refine norm_ (a' := ?_) ?_ ?_; rotate_left; (· (show Act.put _ (some 10) _ = _; simp only [Act.put, sz_, s0_, s1_, i64_w, i32_w]; rfl)))
    | (refine value_ (N := some 6) (w1 := wd_.alloc (.cells #[.int .i64 0] 2 (0, 0))) (v := .pointer (some ⟨wd_.heap.size, 0, none⟩)) (by rfl) rfl ?_ ?_; (· (go_simp; (try rfl))); have hb := below_alloc (Below.refl wd_.heap.size wd_) (.cells #[.int .i64 0] 2 (0, 0)); have hnw := blk_new wd_ (.cells #[.int .i64 0] 2 (0, 0)); have hz := below_size HB.out; (try have HNN := Aside0.mk (show wd_.heap.size ≠ go by have := Kd.R_lt HO.out go rfl; omega)); (try (have u_ := Aside0.mk (blk_below H2.out hb); clear H2; have H2 := u_; clear u_)); (try (have u_ := Aside0.mk (blk_below H3.out hb); clear H3; have H3 := u_; clear u_)); (try (have u_ := Aside0.mk (below_step HB.out hb); clear HB; have HB := u_; clear u_)); (try (have u_ := Aside0.mk (Kd.R_below HO.out hb); clear HO; have HO := u_; clear u_)); (try (have u_ := Aside0.mk (blk_below HA.out hb); clear HA; have HA := u_; clear u_)); (try (have u_ := Aside0.mk (blk_below HC.out hb); clear HC; have HC := u_; clear u_)); clear hb; generalize wd_.alloc (.cells #[.int .i64 0] 2 (0, 0)) = wx_ at *; generalize wd_.heap.size = ga at *; have HA := Aside0.mk hnw; have HZA := Aside0.mk hz; clear hnw hz; refine hK.out _ _ ⟨(blk_cell H2.out 0).trans rfl, (blk_cell H2.out 1).trans rfl, (blk_cell H2.out 2).trans rfl⟩ (fun hHeld => ?_); clear hK K; refine norm_ (a' := ?_) ?_ ?_; rotate_left; (· (show Act.put _ (some 6) _ = _; simp only [Act.put, sz_, s0_, s1_, i64_w, i32_w]; rfl)); (try clear wd_); generalize wx_ = wd_ at *)
    | (refine value_ (N := some 7) (w1 := wd_.alloc (.cells #[.slice none 0 0] 22 (0, 0))) (v := .pointer (some ⟨wd_.heap.size, 0, none⟩)) (by rfl) rfl ?_ ?_; (· (go_simp; (try rfl))); have hb := below_alloc (Below.refl wd_.heap.size wd_) (.cells #[.slice none 0 0] 22 (0, 0)); have hnw := blk_new wd_ (.cells #[.slice none 0 0] 22 (0, 0)); have hz := below_size HB.out; (try (have u_ := Aside0.mk (blk_below H2.out hb); clear H2; have H2 := u_; clear u_)); (try (have u_ := Aside0.mk (blk_below H3.out hb); clear H3; have H3 := u_; clear u_)); (try (have u_ := Aside0.mk (below_step HB.out hb); clear HB; have HB := u_; clear u_)); (try (have u_ := Aside0.mk (Kd.R_below HO.out hb); clear HO; have HO := u_; clear u_)); (try (have u_ := Aside0.mk (blk_below HA.out hb); clear HA; have HA := u_; clear u_)); (try (have u_ := Aside0.mk (blk_below HC.out hb); clear HC; have HC := u_; clear u_)); clear hb; generalize wd_.alloc (.cells #[.slice none 0 0] 22 (0, 0)) = wx_ at *; generalize wd_.heap.size = gb at *; have HC := Aside0.mk hnw; have HZB := Aside0.mk hz; clear hnw hz; refine hK.out _ _ ⟨(blk_cell H2.out 0).trans rfl, (blk_cell H2.out 1).trans rfl, (blk_cell H2.out 2).trans rfl⟩ (fun hHeld => ?_); clear hK K; refine norm_ (a' := ?_) ?_ ?_; rotate_left; (· (show Act.put _ (some 7) _ = _; simp only [Act.put, sz_, s0_, s1_, i64_w, i32_w]; rfl)); (try clear wd_); generalize wx_ = wd_ at *)
  all_goals first
    | (refine one_ (l := #[true, true, true, true, false, false, false]) (i := 4) (N := some 7) #[true, true, true, true, true, false, false] rfl rfl (one_of HT_.out (by kernel_rfl)) (by decide) (fun K hK => ?_))
    | (refine one_ (l := #[true, true, true, false, true, false, false]) (i := 3) (N := some 6) #[true, true, true, true, true, false, false] rfl rfl (one_of HT_.out (by kernel_rfl)) (by decide) (fun K hK => ?_))
    | (refine two_ (l := #[true, true, false, true, true, false, false]) (i := 2) (j := 5) (Ni := some 10) (Nj := none) #[true, true, true, true, true, false, false] #[true, true, false, true, true, true, false] rfl rfl rfl rfl (two_of HT_.out (by kernel_rfl)) (by decide) (by decide) (fun K hK => ?_) (fun K hK => ?_))
  all_goals first
    | (refine Kd.R_make_step (Kd.int .i64) _ 2 (by rfl) (N := 10) rfl 22 _ _ rfl (N : Int) rfl rfl Try.underlying22 (.int .i64 0) 8 info2 rfl (by decide) (by omega) 0 (ok := fun _ => True) (okp := fun _ => True) rfl (fun _ hk => hk) trivial HN0.out HN8.out (Below.refl _ _) (Nat.le_refl _) ?_; intro v10 wd_ ho hb hg_ hnew_; clear hg_ hnew_; rw [Int.toNat_natCast, ← sharesV_nil] at ho; obtain ⟨go, co, e10, hgo_, _, _⟩ := Kd.R_form ho (by rw [sharesV_len]; exact HNp.out); rw [sharesV_len] at e10; subst e10; (try have HNN := Aside0.mk (show ga ≠ go by have := blk_lt HA.out; omega)); have HZO := Aside0.mk (show w.heap.size ≤ go by have := below_size HB.out; omega); clear hgo_; have uO0_ := Aside0.mk (Kd.R_lower ho (below_size HB.out)); clear ho; (try (have u_ := Aside0.mk (blk_below H2.out hb); clear H2; have H2 := u_; clear u_)); (try (have u_ := Aside0.mk (blk_below H3.out hb); clear H3; have H3 := u_; clear u_)); (try (have u_ := Aside0.mk (below_step HB.out hb); clear HB; have HB := u_; clear u_)); (try (have u_ := Aside0.mk (Kd.R_below HO.out hb); clear HO; have HO := u_; clear u_)); (try (have u_ := Aside0.mk (blk_below HA.out hb); clear HA; have HA := u_; clear u_)); (try (have u_ := Aside0.mk (blk_below HC.out hb); clear HC; have HC := u_; clear u_)); clear hb; have HO := uO0_; clear uO0_; refine hK.out _ _ ⟨(blk_cell H2.out 0).trans rfl, (blk_cell H2.out 1).trans rfl, (blk_cell H2.out 2).trans rfl⟩ (fun hHeld => ?_); clear hK K; refine norm_ (a' := ?_) ?_ ?_; rotate_left; (· (show Act.put _ (some 10) _ = _; simp only [Act.put, sz_, s0_, s1_, i64_w, i32_w]; rfl)))
    | (refine value_ (N := some 6) (w1 := wd_.alloc (.cells #[.int .i64 0] 2 (0, 0))) (v := .pointer (some ⟨wd_.heap.size, 0, none⟩)) (by rfl) rfl ?_ ?_; (· (go_simp; (try rfl))); have hb := below_alloc (Below.refl wd_.heap.size wd_) (.cells #[.int .i64 0] 2 (0, 0)); have hnw := blk_new wd_ (.cells #[.int .i64 0] 2 (0, 0)); have hz := below_size HB.out; (try have HNN := Aside0.mk (show wd_.heap.size ≠ go by have := Kd.R_lt HO.out go rfl; omega)); (try (have u_ := Aside0.mk (blk_below H2.out hb); clear H2; have H2 := u_; clear u_)); (try (have u_ := Aside0.mk (blk_below H3.out hb); clear H3; have H3 := u_; clear u_)); (try (have u_ := Aside0.mk (below_step HB.out hb); clear HB; have HB := u_; clear u_)); (try (have u_ := Aside0.mk (Kd.R_below HO.out hb); clear HO; have HO := u_; clear u_)); (try (have u_ := Aside0.mk (blk_below HA.out hb); clear HA; have HA := u_; clear u_)); (try (have u_ := Aside0.mk (blk_below HC.out hb); clear HC; have HC := u_; clear u_)); clear hb; generalize wd_.alloc (.cells #[.int .i64 0] 2 (0, 0)) = wx_ at *; generalize wd_.heap.size = ga at *; have HA := Aside0.mk hnw; have HZA := Aside0.mk hz; clear hnw hz; refine hK.out _ _ ⟨(blk_cell H2.out 0).trans rfl, (blk_cell H2.out 1).trans rfl, (blk_cell H2.out 2).trans rfl⟩ (fun hHeld => ?_); clear hK K; refine norm_ (a' := ?_) ?_ ?_; rotate_left; (· (show Act.put _ (some 6) _ = _; simp only [Act.put, sz_, s0_, s1_, i64_w, i32_w]; rfl)); (try clear wd_); generalize wx_ = wd_ at *)
    | (refine value_ (N := some 7) (w1 := wd_.alloc (.cells #[.slice none 0 0] 22 (0, 0))) (v := .pointer (some ⟨wd_.heap.size, 0, none⟩)) (by rfl) rfl ?_ ?_; (· (go_simp; (try rfl))); have hb := below_alloc (Below.refl wd_.heap.size wd_) (.cells #[.slice none 0 0] 22 (0, 0)); have hnw := blk_new wd_ (.cells #[.slice none 0 0] 22 (0, 0)); have hz := below_size HB.out; (try (have u_ := Aside0.mk (blk_below H2.out hb); clear H2; have H2 := u_; clear u_)); (try (have u_ := Aside0.mk (blk_below H3.out hb); clear H3; have H3 := u_; clear u_)); (try (have u_ := Aside0.mk (below_step HB.out hb); clear HB; have HB := u_; clear u_)); (try (have u_ := Aside0.mk (Kd.R_below HO.out hb); clear HO; have HO := u_; clear u_)); (try (have u_ := Aside0.mk (blk_below HA.out hb); clear HA; have HA := u_; clear u_)); (try (have u_ := Aside0.mk (blk_below HC.out hb); clear HC; have HC := u_; clear u_)); clear hb; generalize wd_.alloc (.cells #[.slice none 0 0] 22 (0, 0)) = wx_ at *; generalize wd_.heap.size = gb at *; have HC := Aside0.mk hnw; have HZB := Aside0.mk hz; clear hnw hz; refine hK.out _ _ ⟨(blk_cell H2.out 0).trans rfl, (blk_cell H2.out 1).trans rfl, (blk_cell H2.out 2).trans rfl⟩ (fun hHeld => ?_); clear hK K; refine norm_ (a' := ?_) ?_ ?_; rotate_left; (· (show Act.put _ (some 7) _ = _; simp only [Act.put, sz_, s0_, s1_, i64_w, i32_w]; rfl)); (try clear wd_); generalize wx_ = wd_ at *)
    | (have hfA := blk_frozen HA.out 0; have hcA := (blk_cell HA.out 0).trans rfl; refine skip_ (w1 := wd_.setCell ⟨ga, 0, none⟩ (.int .i64 0)) (by rfl) rfl ?_ ?_; (· (go_simp; (try rfl))); (try (have u_ := Aside0.mk (blk_far (p := ⟨ga, 0, none⟩) H2.out (blk_types_ne H2.out HA.out (by decide)) (.int .i64 0)); clear H2; have H2 := u_; clear u_)); (try (have u_ := Aside0.mk (blk_far (p := ⟨ga, 0, none⟩) H3.out (blk_types_ne H3.out HA.out (by decide)) (.int .i64 0)); clear H3; have H3 := u_; clear u_)); have uB_ := Aside0.mk (below_set HB.out HZA.out : Below w.heap.size w (wd_.setCell ⟨ga, 0, none⟩ (.int .i64 0))); clear HB; have HB := uB_; clear uB_; (try (have u_ := Aside0.mk (blk_far (p := ⟨ga, 0, none⟩) HC.out (blk_types_ne HC.out HA.out (by decide)) (.int .i64 0)); clear HC; have HC := u_; clear u_)); (try (have u_ := Aside0.mk (Kd.R_mono (ok' := fun _ => True) (Kd.R_far (p := ⟨ga, 0, none⟩) (Kd.R_far1 HO.out rfl (g := ga) (fun e => HNN.out (by injection e))) (fun k hk => hk.2) (.int .i64 0)) (fun _ _ => trivial)); clear HO; have HO := u_; clear u_)); (try (have u_ := Aside0.mk (blk_put HA.out 0 (.int .i64 0) rfl); clear HA; have HA := u_; clear u_)); clear hfA hcA; generalize wd_.setCell ⟨ga, 0, none⟩ (.int .i64 0) = wd_ at *; refine hK.out _ _ ⟨(blk_cell H2.out 0).trans rfl, (blk_cell H2.out 1).trans rfl, (blk_cell H2.out 2).trans rfl⟩ (fun hHeld => ?_); clear hK K)
  all_goals first
    | (refine one_ (l := #[true, true, true, true, true, false, false]) (i := 5) (N := none) #[true, true, true, true, true, true, false] rfl rfl (one_of HT_.out (by kernel_rfl)) (by decide) (fun K hK => ?_))
    | (refine one_ (l := #[true, true, false, true, true, true, false]) (i := 2) (N := some 10) #[true, true, true, true, true, true, false] rfl rfl (one_of HT_.out (by kernel_rfl)) (by decide) (fun K hK => ?_))
  all_goals first
    | (refine Kd.R_make_step (Kd.int .i64) _ 2 (by rfl) (N := 10) rfl 22 _ _ rfl (N : Int) rfl rfl Try.underlying22 (.int .i64 0) 8 info2 rfl (by decide) (by omega) 0 (ok := fun _ => True) (okp := fun _ => True) rfl (fun _ hk => hk) trivial HN0.out HN8.out (Below.refl _ _) (Nat.le_refl _) ?_; intro v10 wd_ ho hb hg_ hnew_; clear hg_ hnew_; rw [Int.toNat_natCast, ← sharesV_nil] at ho; obtain ⟨go, co, e10, hgo_, _, _⟩ := Kd.R_form ho (by rw [sharesV_len]; exact HNp.out); rw [sharesV_len] at e10; subst e10; (try have HNN := Aside0.mk (show ga ≠ go by have := blk_lt HA.out; omega)); have HZO := Aside0.mk (show w.heap.size ≤ go by have := below_size HB.out; omega); clear hgo_; have uO0_ := Aside0.mk (Kd.R_lower ho (below_size HB.out)); clear ho; (try (have u_ := Aside0.mk (blk_below H2.out hb); clear H2; have H2 := u_; clear u_)); (try (have u_ := Aside0.mk (blk_below H3.out hb); clear H3; have H3 := u_; clear u_)); (try (have u_ := Aside0.mk (below_step HB.out hb); clear HB; have HB := u_; clear u_)); (try (have u_ := Aside0.mk (Kd.R_below HO.out hb); clear HO; have HO := u_; clear u_)); (try (have u_ := Aside0.mk (blk_below HA.out hb); clear HA; have HA := u_; clear u_)); (try (have u_ := Aside0.mk (blk_below HC.out hb); clear HC; have HC := u_; clear u_)); clear hb; have HO := uO0_; clear uO0_; refine hK.out _ _ ⟨(blk_cell H2.out 0).trans rfl, (blk_cell H2.out 1).trans rfl, (blk_cell H2.out 2).trans rfl⟩ (fun hHeld => ?_); clear hK K; refine norm_ (a' := ?_) ?_ ?_; rotate_left; (· (show Act.put _ (some 10) _ = _; simp only [Act.put, sz_, s0_, s1_, i64_w, i32_w]; rfl)))
    | (have hfA := blk_frozen HA.out 0; have hcA := (blk_cell HA.out 0).trans rfl; refine skip_ (w1 := wd_.setCell ⟨ga, 0, none⟩ (.int .i64 0)) (by rfl) rfl ?_ ?_; (· (go_simp; (try rfl))); (try (have u_ := Aside0.mk (blk_far (p := ⟨ga, 0, none⟩) H2.out (blk_types_ne H2.out HA.out (by decide)) (.int .i64 0)); clear H2; have H2 := u_; clear u_)); (try (have u_ := Aside0.mk (blk_far (p := ⟨ga, 0, none⟩) H3.out (blk_types_ne H3.out HA.out (by decide)) (.int .i64 0)); clear H3; have H3 := u_; clear u_)); have uB_ := Aside0.mk (below_set HB.out HZA.out : Below w.heap.size w (wd_.setCell ⟨ga, 0, none⟩ (.int .i64 0))); clear HB; have HB := uB_; clear uB_; (try (have u_ := Aside0.mk (blk_far (p := ⟨ga, 0, none⟩) HC.out (blk_types_ne HC.out HA.out (by decide)) (.int .i64 0)); clear HC; have HC := u_; clear u_)); (try (have u_ := Aside0.mk (Kd.R_mono (ok' := fun _ => True) (Kd.R_far (p := ⟨ga, 0, none⟩) (Kd.R_far1 HO.out rfl (g := ga) (fun e => HNN.out (by injection e))) (fun k hk => hk.2) (.int .i64 0)) (fun _ _ => trivial)); clear HO; have HO := u_; clear u_)); (try (have u_ := Aside0.mk (blk_put HA.out 0 (.int .i64 0) rfl); clear HA; have HA := u_; clear u_)); clear hfA hcA; generalize wd_.setCell ⟨ga, 0, none⟩ (.int .i64 0) = wd_ at *; refine hK.out _ _ ⟨(blk_cell H2.out 0).trans rfl, (blk_cell H2.out 1).trans rfl, (blk_cell H2.out 2).trans rfl⟩ (fun hHeld => ?_); clear hK K)
  all_goals generalize wd_ = wz_ at H2 H3 HB HO HA HC hHeld ⊢
  all_goals
    refine last_ (i := 6) (N := none) (flg_ 7 127) rfl rfl (one_of HT_.out (by kernel_rfl)) (by decide) (fun K hK => ?_)
    have hfC := blk_frozen HC.out 0
    have hcC := (blk_cell HC.out 0).trans rfl
    refine skip_ (w1 := World.setCell wz_ ⟨gb, 0, none⟩ (.slice (some ⟨go, 0, none⟩) N co)) (by rfl) rfl ?_ ?_
    · go_simp
      (try rfl)
    refine hK.out _ _ ?_
    clear hK K hfC hcC hHeld
    have HNE := Aside0.mk (show ShNe w g3 ga gb go from ⟨blk_types_ne H3.out HA.out (by decide), (blk_types_ne HC.out HA.out (by decide)), HNN.out, row_ne H3.out HO.out (by decide), row_ne HC.out HO.out (by decide), HZA.out, HZO.out⟩)
    have uS_ := Aside0.mk (share_start H3.out HC.out HA.out HO.out HB.out HNE.out HZB.out)
    have u2_ := Aside0.mk (blk_far (p := ⟨gb, 0, none⟩) H2.out (blk_types_ne H2.out HC.out (by decide)) (.slice (some ⟨go, 0, none⟩) N co))
    clear H2 H3 HA HC HO HB
    have H2 := u2_
    have HS := uS_
    clear u2_ uS_
    generalize World.setCell wz_ ⟨gb, 0, none⟩ (.slice (some ⟨go, 0, none⟩) N co) = w7 at H2 HS ⊢
    refine done_ (done_of HT_.out (by kernel_rfl)) ?_
    have hs0 := (blk_cell H2.out 0).trans rfl
    have hs1 := (blk_cell H2.out 1).trans rfl
    have hs2 := (blk_cell H2.out 2).trans rfl
    go_wp2_with (first | (go_at_call 65; refine (share_each W0 H0 ships A2 c2 HW.out HH.out HSz.out HSI.out HC2.out HTl.out HTs.out HNE.out HT0.out HTc.out HSh.out HNN0.out HS.out).mono ?_; rintro e w8 ⟨rfl, hE⟩; rw [HDn.out] at hE; have HE := Aside0.mk hE; clear hE H2 HS hs0 hs1 hs2; have ha_ := (blk_cell HE.out.ba 0).trans rfl; have hb_ := (blk_cell HE.out.bb 0).trans rfl))
    go_quiet (fail)
    (try go_wp2_with fail)
    go_ret2
    have hbq := pw_below_drewN (Below.refl w8.heap.size w8) nq
    exact ⟨_, rfl, Kd.R_mono (Kd.R_below HE.out.row hbq) (fun _ _ => trivial), below_step HE.out.below hbq⟩
-- With no bound the reference's fleets are all that agree: the value that the contracts name. (for 64)
-- goV_all fleetsOf
def goFleets (w h : Int) (l : List Int) (T : List S93) (most : Int) : List (List Int) := goV w.toNat h.toNat l T l.length [] 0 most
theorem goFleets_all {w h : Int} {l : List Int} (hs : seaV w h l = true) (T : List S93) : goFleets w h l T (-1) = (fleetsOf w h l).filter fun fl => agFrom fl 0 T := by
  obtain ⟨⟨W0, rfl, hw1, hw5⟩, ⟨H0, rfl, hh1, hh5⟩, _, _⟩ := seaV_nat hs
  unfold goFleets fleetsOf
  simp only [Int.toNat_natCast]
  exact goV_all ⟨hw1, hw5⟩ ⟨hh1, hh5⟩ l (sea_ships hs) T (-1) (by omega) l.length [] 0 (by simp) (used_zero [])
-- What the reference's list of fleets needs of the functions that it calls. (for 64)
-- specPlacements_ev specAgrees_ev goV
theorem go_env {W0 H0 : Nat} (hW : 1 ≤ W0 ∧ W0 ≤ 5) (hH : 1 ≤ H0 ∧ H0 ≤ 5) (ships : List Int) (hs3 : ships.length ≤ 3) (hin : ∀ j : Nat, j < ships.length → inW (rd ships (j : Int)) 1 5 = true) (T : List S93) (hT : T.length ≤ 1048576) (hc : SeaCells (T.map fun x => x.f0)) :
    (∀ j : Nat, j < ships.length → ∃ kp, spec_l09Placements.f kp (W0 : Int) (H0 : Int) ships (rd ships (j : Int)) = some (placeOf W0 H0 ships j)) ∧ ∀ list : List Int, list.length = ships.length → InPl W0 H0 ships list → ∃ ka, spec_l09Agrees.f ka list T = some (agFrom list 0 T) := by
  refine ⟨fun j hj => ?_, fun list hl hi => ?_⟩
  · obtain ⟨n, hn, h1, h5⟩ := inW_five (hin j hj)
    obtain ⟨K, hK⟩ := specPlacements_ev hW hH.2 ⟨h1, h5⟩ ships
    exact ⟨K, by rw [hn]; unfold placeOf; rw [hn, Int.toNat_natCast]; exact hK K (Nat.le_refl _)⟩
  · have hN : NumFleet list := fun x hx => by
      obtain ⟨j, hj, rfl⟩ := List.mem_iff_getElem.1 hx
      obtain ⟨n, hn, h1, h5⟩ := inW_five (hin j (by omega))
      have := hi j hj
      unfold placeOf at this
      rw [hn, Int.toNat_natCast] at this
      obtain ⟨m, e, _, h⟩ := placesOf_num hW.1 hW.2 hH.2 h1 _ this
      exact ⟨m, e, h⟩
    obtain ⟨K, hK⟩ := specAgrees_ev hN (by omega) T hT hc
    exact ⟨K, hK K (Nat.le_refl _)⟩
/-! ### spec_l09Shares: function 91 -/
-- EXTERNAL: by hand
-- spec_l09Go spec_l09Set spec_l09Cells
-- goFleets go_env seaV_nat sea_ships sharesV shareSome shotsIn agreeing goFleets_all fleets_num specSet_ev specCells_ev chosen_step
def spec_l09Shares.f (a0_0 a0_1 : Int) (l0_2 : List Int) (l1 : List S93) : Option (List Int × Int) := if seaV a0_0 a0_1 l0_2 = true ∧ shotsIn l1 = true ∧ l1.length ≤ 1048576 then some (sharesV (a0_0.toNat * a0_1.toNat) (agreeing (fleetsOf a0_0 a0_1 l0_2) l1), ((agreeing (fleetsOf a0_0 a0_1 l0_2) l1).length : Int)) else none
theorem fnil_ (w : World) (ok : Nat → Prop) (A : Option Addr) : Kd.F (Kd.int .i64) w ok A 0 [] := fun _ _ => ⟨rfl, Nat.zero_le _, fun hp => absurd hp (by simp)⟩
theorem row_blk_ {W : World} {base go n co : Nat} {ok : Nat → Prop} {xs : List Int} (ho : Kd.R (Kd.int .i64) 2 W base ok (.slice (some ⟨go, 0, none⟩) n co) xs) (h : 0 < xs.length) : ∃ cells, W.heap[go]? = some (.cells cells 2 (0, 0)) := by
  obtain ⟨g, cap, e2, _, _, cells, hc⟩ := Kd.R_form ho h
  injection e2 with e3
  injection e3 with e3
  injection e3 with e3
  subst e3
  exact ⟨cells, hc⟩
theorem wrap_nat2_ {N : Nat} (h : N ≤ 25) : wrap64 (N : Int) = (N : Int) := by unfold wrap64; omega
def spec_l09Shares.T1 : Bool × List (List Nat × List Nat) := (true, [([], []), ([], []), ([], []), ([0, 1, 2], [0, 1, 2]), ([], []), ([4], [4]), ([], []), ([6], [6]), ([5, 7], [5, 7]), ([8, 8], [8]), ([3, 3, 0, 1, 2, 3], [3]), ([9, 10, 0, 1, 2, 3, 4, 5, 6, 7, 8, 9, 10], [9])])
def spec_l09Shares.B1 : List Nat := [0, 0, 0, 7, 0, 16, 0, 64, 240, 496, 15, 2047]
theorem spec_l09Shares.tab1 : rtab .any (opsOf Try.f91 1) = spec_l09Shares.T1 := by kernel_rfl
theorem spec_l09Shares.bits1 : waitsOk spec_l09Shares.T1.2 spec_l09Shares.B1 = true := by kernel_rfl
set_option maxHeartbeats 16000000 in
set_option maxRecDepth 100000 in
theorem spec_l09Shares.calls (a0_0 a0_1 : Int) (A2 : Option Addr) (c2 : Nat) (ships : List Int) (A3 : Option Addr) (c3 : Nat) (T : List S93) (r1 : List Int) (r2 : Int) (w : World) (hr0_2 : Kd.C (Kd.int .i64) w A2 ships.length ships) (hc0_2 : ships.length ≤ c2) (hr1 : Kd.C k93 w A3 T.length T) (hc1 : T.length ≤ c3) (h : spec_l09Shares.f a0_0 a0_1 ships T = some (r1, r2)) :
    Calls Try.prog 91 #[.agg #[.int .i64 a0_0, .int .i64 a0_1, .slice A2 ships.length c2], .slice A3 T.length c3] w fun e w' => ∃ v0_ : Value, e = .returned (.tuple #[v0_, .int .i64 r2]) ∧ Kd.R (Kd.int .i64) 2 w' w.heap.size (fun _ => True) v0_ r1 ∧ Below w.heap.size w w' := by
  unfold spec_l09Shares.f at h
  split at h
  case isFalse => cases h
  rename_i hs
  simp only [Option.some.injEq, Prod.mk.injEq] at h
  obtain ⟨hr1_, hr2_⟩ := h
  obtain ⟨hs, hsi, hTl⟩ := hs
  have hall := goFleets_all hs T
  obtain ⟨⟨W0, rfl, hw1, hw5⟩, ⟨H0, rfl, hh1, hh5⟩, hs1, hs3⟩ := seaV_nat hs
  have HW := Aside0.mk (And.intro hw1 hw5)
  have HH := Aside0.mk (And.intro hh1 hh5)
  have HSz := Aside0.mk (And.intro hs1 hs3)
  have HTs := Aside0.mk (shotsIn_sea hsi)
  have HT0 := Aside0.mk hr1
  have HTc := Aside0.mk hc1
  have HSh := Aside0.mk hr0_2
  have HC2 := Aside0.mk hc0_2
  have HEnv := Aside0.mk (go_env ⟨hw1, hw5⟩ ⟨hh1, hh5⟩ ships hs3 (sea_ships hs) T hTl (shotsIn_sea hsi))
  have HLen := Aside0.mk (show ([] : List Int).length + ships.length = ships.length by simp)
  have HNum := Aside0.mk (fleets_num ⟨hw1, hw5⟩ ⟨hh1, hh5⟩ hs3 (sea_ships hs) T)
  have hgl := goV_len W0 H0 ships T (fun j => placeOf_len hw5 hh5 ships j) ships.length [] 0 (-1)
  unfold goFleets fleetsOf at hall
  unfold fleetsOf at hr1_ hr2_
  simp only [Int.toNat_natCast] at hr1_ hr2_ hall
  replace hall : goV W0 H0 ships T ships.length [] 0 (-1) = agreeing (fleetsFrom W0 H0 ships ships.length []) T := hall
  obtain ⟨fls, hfls⟩ : ∃ fls, agreeing (fleetsFrom W0 H0 ships ships.length []) T = fls := ⟨_, rfl⟩
  rw [hfls] at hr1_ hr2_ hall HNum
  have HFlen := Aside0.mk (show fls.length ≤ 1000000 by rw [← hall]; exact Nat.le_trans hgl (Nat.le_trans (Nat.pow_le_pow_right (by omega) hs3) (by simp)))
  have HFl := Aside0.mk hall
  obtain ⟨N, hN⟩ : ∃ N, W0 * H0 = N := ⟨_, rfl⟩
  rw [hN] at hr1_ HNum
  have hN25 : N ≤ 25 := by rw [← hN]; exact cells_le hw5 hh5
  have HN25 := Aside0.mk hN25
  have HNp := Aside0.mk (show 0 < N by rw [← hN]; exact Nat.mul_pos (by omega) (by omega))
  have hwn : wrap64 ((W0 : Int) * (H0 : Int)) = (N : Int) := by rw [show (W0 : Int) * (H0 : Int) = (N : Int) by rw [← hN, Int.natCast_mul], wrap_nat2_ hN25]
  have HN0 := Aside0.mk (show (0 : Int) ≤ wrap64 ((W0 : Int) * (H0 : Int)) by rw [hwn]; exact Int.natCast_nonneg N)
  have HN8 := Aside0.mk (show (wrap64 ((W0 : Int) * (H0 : Int))).toNat * 8 ≤ 281474976710656 by rw [hwn, Int.toNat_natCast]; clear hwn; omega)
  have HNe := Aside0.mk (show (wrap64 ((W0 : Int) * (H0 : Int))).toNat = N by rw [hwn, Int.toNat_natCast])
  subst hr1_ hr2_
  have hu28 := Try.underlying28
  clear hr0_2 hc0_2 hr1 hc1 hs hsi hTl hw1 hw5 hh1 hh5 hs1 hs3 hN hN25 hwn hgl hall hfls
  go_enter Try.func91, Try.ntmps91
  go_wp2_with (first | ((with_reducible refine gate_dst (N := 2) rfl ?_); refine box_event ?hg (N := 2) ?hd (cs := #[.int .i64 (W0 : Int), .int .i64 (H0 : Int), .slice A2 ships.length c2]) (t := 28) ?hr ?_; (case hd => rfl); (case hg => rfl); (case hr => first | (go_simp; done) | (go_simp; rfl)); intro g2 hg2 w1 hbox hb; have H2 := Aside0.mk hbox; have HB := Aside0.mk hb; clear hbox hb hg2))
  have u2_ := Aside0.mk (blk_drew H2.out)
  have uB_ := Aside0.mk (below_drew1 HB.out)
  clear H2 HB
  have H2 := u2_
  have HB := uB_
  clear u2_ uB_
  refine start_ (n := 12) (S := fun w' => w'.cell? ⟨g2, 0, none⟩ = some (.int .i64 (W0 : Int)) ∧ w'.cell? ⟨g2, 1, none⟩ = some (.int .i64 (H0 : Int)) ∧ w'.cell? ⟨g2, 2, none⟩ = some (.slice A2 ships.length c2)) (ds := []) #[false, false, false, false, false, false, false, false, false, false, false, false] (by kernel_rfl) rfl rfl ⟨(blk_cell H2.out 0).trans rfl, (blk_cell H2.out 1).trans rfl, (blk_cell H2.out 2).trans rfl⟩ (fun hHeld => ?_)
  refine with_tabW spec_l09Shares.tab1 spec_l09Shares.bits1 (fun HT_ HW_ => ?_)
  generalize hq_ : w1.drew = wd_ at H2 HB hHeld ⊢
  clear hq_
  refine take_ (i := 0) (N := some 11) (v := ?_) (a' := ?_) (flg_ 12 1) rfl rfl (take_ofW HT_.out HW_.out (by kernel_rfl)) (fun _ _ _ h => h) (Or.inl ⟨by rfl, ?_⟩) hHeld ?_ ?_
  rotate_left
  · rintro w' ⟨s0_, s1_, s2_⟩
    go_simp
    with_reducible rfl
  rotate_left
  · simp only [Act.put, sz_, s0_, s1_, i64_w, i32_w]
    rfl
  refine pure_ (i := 2) (N := some 13) (v := ?_) (a' := ?_) (flg_ 12 5) rfl rfl (any_of HT_.out (by kernel_rfl)) (fun _ _ _ h => h) (Or.inl ⟨by rfl, ?_⟩) ?_ ?_
  rotate_left
  · intro w'
    go_simp
    with_reducible rfl
  rotate_left
  · simp only [Act.put, sz_, s0_, s1_, i64_w, i32_w]
    rfl
  refine pure_ (i := 4) (N := some 15) (v := ?_) (a' := ?_) (flg_ 12 21) rfl rfl (any_of HT_.out (by kernel_rfl)) (fun _ _ _ h => h) (Or.inl ⟨by rfl, ?_⟩) ?_ ?_
  rotate_left
  · intro w'
    go_simp
    with_reducible rfl
  rotate_left
  · simp only [Act.put, sz_, s0_, s1_, i64_w, i32_w]
    rfl
  refine take_ (i := 5) (N := some 16) (v := ?_) (a' := ?_) (flg_ 12 53) rfl rfl (take_ofW HT_.out HW_.out (by kernel_rfl)) (fun _ _ _ h => h) (Or.inl ⟨by rfl, ?_⟩) hHeld ?_ ?_
  rotate_left
  · rintro w' ⟨s0_, s1_, s2_⟩
    go_simp
    with_reducible rfl
  rotate_left
  · simp only [Act.put, sz_, s0_, s1_, i64_w, i32_w]
    rfl
  refine pure_ (i := 6) (N := some 17) (v := ?_) (a' := ?_) (flg_ 12 117) rfl rfl (any_of HT_.out (by kernel_rfl)) (fun _ _ _ h => h) (Or.inl ⟨by rfl, ?_⟩) ?_ ?_
  rotate_left
  · intro w'
    go_simp
    with_reducible rfl
  rotate_left
  · simp only [Act.put, sz_, s0_, s1_, i64_w, i32_w]
    rfl
  refine take_ (i := 7) (N := some 18) (v := ?_) (a' := ?_) (flg_ 12 245) rfl rfl (take_ofW HT_.out HW_.out (by kernel_rfl)) (fun _ _ _ h => h) (Or.inl ⟨by rfl, ?_⟩) hHeld ?_ ?_
  rotate_left
  · rintro w' ⟨s0_, s1_, s2_⟩
    go_simp
    with_reducible rfl
  rotate_left
  · simp only [Act.put, sz_, s0_, s1_, i64_w, i32_w]
    rfl
  refine pure_ (i := 8) (N := some 19) (v := ?_) (a' := ?_) (flg_ 12 501) rfl rfl (any_of HT_.out (by kernel_rfl)) (fun _ _ _ h => h) (Or.inl ⟨by rfl, ?_⟩) ?_ ?_
  rotate_left
  · intro w'
    go_simp
    with_reducible rfl
  rotate_left
  · simp only [Act.put, sz_, s0_, s1_, i64_w, i32_w]
    rfl
  refine two_ (i := 1) (j := 9) (Ni := some 12) (Nj := some 20) (flg_ 12 503) (flg_ 12 1013) rfl rfl rfl rfl (two_of HT_.out (by kernel_rfl)) (by decide) (by decide) (fun K hK => ?_) (fun K hK => ?_)
  focus
    refine Kd.R_lit_step (Kd.int .i64) _ 2 ?hg (N := 12) ?hd (xs := ([] : List Int)) (inner := []) (ok := fun _ => True) (okp := fun _ => True) ?hr ?hp (fun _ hk => hk) trivial (Below.refl _ _) (Nat.le_refl _) (by simp) ?_; (case hd => rfl); (case hg => rfl); (case hr => first | (go_simp; done) | (go_simp; rfl)); (case hp => exact Reps.none _ _)
    intro v12 wq1_ ho hb hg_ hnew_
    clear hg_ hnew_
    obtain ⟨A12, c12, e12⟩ := Kd.R_slice ho
    subst e12
    clear ho
    have u2_ := Aside0.mk (blk_below H2.out hb)
    have uB_ := Aside0.mk (below_step HB.out hb)
    clear hb H2 HB
    have H2 := u2_
    have HB := uB_
    clear u2_ uB_
    refine hK.out _ _ ⟨(blk_cell H2.out 0).trans rfl, (blk_cell H2.out 1).trans rfl, (blk_cell H2.out 2).trans rfl⟩ (fun hHeld => ?_)
    clear hK K
    refine norm_ (a' := ?_) ?_ ?_
    rotate_left
    · show Act.put _ (some 12) _ = _
      simp only [Act.put, sz_, s0_, s1_, i64_w, i32_w]
      rfl
    refine two_ (i := 3) (j := 9) (Ni := some 14) (Nj := some 20) (flg_ 12 511) (flg_ 12 1015) rfl rfl rfl rfl (two_of HT_.out (by kernel_rfl)) (by decide) (by decide) (fun K hK => ?_) (fun K hK => ?_)
    focus
      refine goes_ Try.func64 (by kernel_rfl) rfl #[.agg #[.int .i64 (W0 : Int), .int .i64 (H0 : Int), .slice A2 ships.length c2], .slice A12 ([] : List Int).length c12, .int .i64 0, .slice A3 T.length c3, .int .i64 (-1)] (by rfl) rfl rfl (by (try simp only [List.map_toArray, List.map_cons, List.map_nil]); first | done | rfl) ?_
      refine (spec_l09Go.does W0 H0 ships A2 c2 A3 c3 T HW.out.2 HH.out.2 HSz.out.2 HC2.out HTc.out HEnv.out.1 HEnv.out.2 ships.length [] 0 (-1) A12 c12 (fun _ => False) wq1_ HLen.out InPl.nil (by omega) (fnil_ _ _ _) (Nat.zero_le _) (Kd.C_below HT0.out HB.out) (Kd.C_below HSh.out HB.out)).mono ?_
      rintro e wq2_ ⟨v14, rfl, ho, hb⟩
      obtain ⟨A14, c14, e14⟩ := Kd.N_slice ho
      subst e14
      rw [HFl.out] at ho ⊢
      refine ⟨_, rfl, ?_⟩
      have uL0_ := Aside0.mk (Kd.N_mono (ok' := fun _ => True) (Kd.N_lower ho (below_size HB.out)) (fun _ _ => trivial))
      clear ho
      have u2_ := Aside0.mk (blk_below H2.out hb)
      have uB_ := Aside0.mk (below_step HB.out hb)
      clear hb H2 HB
      have H2 := u2_
      have HB := uB_
      clear u2_ uB_
      have HL := uL0_
      clear uL0_
      refine hK.out _ _ ⟨(blk_cell H2.out 0).trans rfl, (blk_cell H2.out 1).trans rfl, (blk_cell H2.out 2).trans rfl⟩ (fun hHeld => ?_)
      clear hK K
      refine norm_ (a' := ?_) ?_ ?_
      rotate_left
      · show Act.put _ (some 14) _ = _
        simp only [Act.put, sz_, s0_, s1_, i64_w, i32_w]
        rfl
      refine pure_ (i := 10) (N := some 6) (v := ?_) (a' := ?_) (flg_ 12 1535) rfl rfl (any_of HT_.out (by kernel_rfl)) (fun _ _ _ h => h) (Or.inl ⟨by rfl, ?_⟩) ?_ ?_
      rotate_left
      · intro w'
        go_simp
        with_reducible rfl
      rotate_left
      · simp only [Act.put, sz_, s0_, s1_, i64_w, i32_w]
        rfl
      refine one_ (i := 9) (N := some 20) (flg_ 12 2047) rfl rfl (one_of HT_.out (by kernel_rfl)) (by decide) (fun K hK => ?_)
      refine Kd.R_make_step (Kd.int .i64) _ 2 (by rfl) (N := 20) rfl 22 _ _ rfl (wrap64 ((W0 : Int) * (H0 : Int))) rfl rfl Try.underlying22 (.int .i64 0) 8 info2 rfl (by decide) (by omega) 0 (ok := fun _ => True) (okp := fun _ => True) rfl (fun _ hk => hk) trivial HN0.out HN8.out (Below.refl _ _) (Nat.le_refl _) ?_
      intro v20 wq3_ ho hb hg_ hnew_
      clear hg_ hnew_
      rw [HNe.out, ← sharesV_nil] at ho
      obtain ⟨go, co, e20, hgo_, _, _⟩ := Kd.R_form ho (by rw [sharesV_len]; exact HNp.out)
      rw [sharesV_len] at e20
      subst e20
      have HZO := Aside0.mk (show w.heap.size ≤ go by have := below_size HB.out; omega)
      have uO0_ := Aside0.mk (Kd.R_mono (ok' := fun k => k = go) (Kd.R_tight rfl (Kd.R_lower ho (below_size HB.out))) (fun k hk => by injection hk))
      clear ho
      have uL0_ := Aside0.mk (Kd.N_mono (ok' := fun k => k ≠ go) (Kd.N_bound HL.out) (fun k hk e_ => by have := hk.2; omega))
      clear HL
      have HL := uL0_
      clear uL0_
      clear hgo_
      have u2_ := Aside0.mk (blk_below H2.out hb)
      have uB_ := Aside0.mk (below_step HB.out hb)
      have uL_ := Aside0.mk (Kd.N_below HL.out hb)
      clear hb H2 HB HL
      have H2 := u2_
      have HB := uB_
      have HL := uL_
      clear u2_ uB_ uL_
      have HO := uO0_
      clear uO0_
      refine hK.out _ _ ⟨(blk_cell H2.out 0).trans rfl, (blk_cell H2.out 1).trans rfl, (blk_cell H2.out 2).trans rfl⟩ (fun hHeld => ?_)
      clear hK K
      refine norm_ (a' := ?_) ?_ ?_
      rotate_left
      · show Act.put _ (some 20) _ = _
        simp only [Act.put, sz_, s0_, s1_, i64_w, i32_w]
        rfl
      generalize wq3_ = wz_ at H2 HB HO HL hHeld ⊢
    rotate_left
    focus
      refine Kd.R_make_step (Kd.int .i64) _ 2 (by rfl) (N := 20) rfl 22 _ _ rfl (wrap64 ((W0 : Int) * (H0 : Int))) rfl rfl Try.underlying22 (.int .i64 0) 8 info2 rfl (by decide) (by omega) 0 (ok := fun _ => True) (okp := fun _ => True) rfl (fun _ hk => hk) trivial HN0.out HN8.out (Below.refl _ _) (Nat.le_refl _) ?_
      intro v20 wq4_ ho hb hg_ hnew_
      clear hg_ hnew_
      rw [HNe.out, ← sharesV_nil] at ho
      obtain ⟨go, co, e20, hgo_, _, _⟩ := Kd.R_form ho (by rw [sharesV_len]; exact HNp.out)
      rw [sharesV_len] at e20
      subst e20
      have HZO := Aside0.mk (show w.heap.size ≤ go by have := below_size HB.out; omega)
      have uO0_ := Aside0.mk (Kd.R_mono (ok' := fun k => k = go) (Kd.R_tight rfl (Kd.R_lower ho (below_size HB.out))) (fun k hk => by injection hk))
      clear ho
      clear hgo_
      have u2_ := Aside0.mk (blk_below H2.out hb)
      have uB_ := Aside0.mk (below_step HB.out hb)
      clear hb H2 HB
      have H2 := u2_
      have HB := uB_
      clear u2_ uB_
      have HO := uO0_
      clear uO0_
      refine hK.out _ _ ⟨(blk_cell H2.out 0).trans rfl, (blk_cell H2.out 1).trans rfl, (blk_cell H2.out 2).trans rfl⟩ (fun hHeld => ?_)
      clear hK K
      refine norm_ (a' := ?_) ?_ ?_
      rotate_left
      · show Act.put _ (some 20) _ = _
        simp only [Act.put, sz_, s0_, s1_, i64_w, i32_w]
        rfl
      refine one_ (i := 3) (N := some 14) (flg_ 12 1023) rfl rfl (one_of HT_.out (by kernel_rfl)) (by decide) (fun K hK => ?_)
      refine goes_ Try.func64 (by kernel_rfl) rfl #[.agg #[.int .i64 (W0 : Int), .int .i64 (H0 : Int), .slice A2 ships.length c2], .slice A12 ([] : List Int).length c12, .int .i64 0, .slice A3 T.length c3, .int .i64 (-1)] (by rfl) rfl rfl (by (try simp only [List.map_toArray, List.map_cons, List.map_nil]); first | done | rfl) ?_
      refine (spec_l09Go.does W0 H0 ships A2 c2 A3 c3 T HW.out.2 HH.out.2 HSz.out.2 HC2.out HTc.out HEnv.out.1 HEnv.out.2 ships.length [] 0 (-1) A12 c12 (fun _ => False) wq4_ HLen.out InPl.nil (by omega) (fnil_ _ _ _) (Nat.zero_le _) (Kd.C_below HT0.out HB.out) (Kd.C_below HSh.out HB.out)).mono ?_
      rintro e wq5_ ⟨v14, rfl, ho, hb⟩
      obtain ⟨A14, c14, e14⟩ := Kd.N_slice ho
      subst e14
      rw [HFl.out] at ho ⊢
      refine ⟨_, rfl, ?_⟩
      have hlt := Kd.R_lt HO.out go rfl
      have uL0_ := Aside0.mk (Kd.N_mono (ok' := fun k => k ≠ go) (Kd.N_lower ho (below_size HB.out)) (fun k hk e_ => by rcases hk with hk | hk; exact hk; omega))
      clear ho hlt
      have u2_ := Aside0.mk (blk_below H2.out hb)
      have uB_ := Aside0.mk (below_step HB.out hb)
      have uO_ := Aside0.mk (Kd.R_below HO.out hb)
      clear hb H2 HB HO
      have H2 := u2_
      have HB := uB_
      have HO := uO_
      clear u2_ uB_ uO_
      have HL := uL0_
      clear uL0_
      refine hK.out _ _ ⟨(blk_cell H2.out 0).trans rfl, (blk_cell H2.out 1).trans rfl, (blk_cell H2.out 2).trans rfl⟩ (fun hHeld => ?_)
      clear hK K
      refine norm_ (a' := ?_) ?_ ?_
      rotate_left
      · show Act.put _ (some 14) _ = _
        simp only [Act.put, sz_, s0_, s1_, i64_w, i32_w]
        rfl
      refine pure_ (i := 10) (N := some 6) (v := ?_) (a' := ?_) (flg_ 12 2047) rfl rfl (any_of HT_.out (by kernel_rfl)) (fun _ _ _ h => h) (Or.inl ⟨by rfl, ?_⟩) ?_ ?_
      rotate_left
      · intro w'
        go_simp
        with_reducible rfl
      rotate_left
      · simp only [Act.put, sz_, s0_, s1_, i64_w, i32_w]
        rfl
      generalize wq5_ = wz_ at H2 HB HO HL hHeld ⊢
    rotate_left
  rotate_left 2
  focus
    refine Kd.R_make_step (Kd.int .i64) _ 2 (by rfl) (N := 20) rfl 22 _ _ rfl (wrap64 ((W0 : Int) * (H0 : Int))) rfl rfl Try.underlying22 (.int .i64 0) 8 info2 rfl (by decide) (by omega) 0 (ok := fun _ => True) (okp := fun _ => True) rfl (fun _ hk => hk) trivial HN0.out HN8.out (Below.refl _ _) (Nat.le_refl _) ?_
    intro v20 wq6_ ho hb hg_ hnew_
    clear hg_ hnew_
    rw [HNe.out, ← sharesV_nil] at ho
    obtain ⟨go, co, e20, hgo_, _, _⟩ := Kd.R_form ho (by rw [sharesV_len]; exact HNp.out)
    rw [sharesV_len] at e20
    subst e20
    have HZO := Aside0.mk (show w.heap.size ≤ go by have := below_size HB.out; omega)
    have uO0_ := Aside0.mk (Kd.R_mono (ok' := fun k => k = go) (Kd.R_tight rfl (Kd.R_lower ho (below_size HB.out))) (fun k hk => by injection hk))
    clear ho
    clear hgo_
    have u2_ := Aside0.mk (blk_below H2.out hb)
    have uB_ := Aside0.mk (below_step HB.out hb)
    clear hb H2 HB
    have H2 := u2_
    have HB := uB_
    clear u2_ uB_
    have HO := uO0_
    clear uO0_
    refine hK.out _ _ ⟨(blk_cell H2.out 0).trans rfl, (blk_cell H2.out 1).trans rfl, (blk_cell H2.out 2).trans rfl⟩ (fun hHeld => ?_)
    clear hK K
    refine norm_ (a' := ?_) ?_ ?_
    rotate_left
    · show Act.put _ (some 20) _ = _
      simp only [Act.put, sz_, s0_, s1_, i64_w, i32_w]
      rfl
    refine one_ (i := 1) (N := some 12) (flg_ 12 1015) rfl rfl (one_of HT_.out (by kernel_rfl)) (by decide) (fun K hK => ?_)
    refine Kd.R_lit_step (Kd.int .i64) _ 2 ?hg (N := 12) ?hd (xs := ([] : List Int)) (inner := []) (ok := fun _ => True) (okp := fun _ => True) ?hr ?hp (fun _ hk => hk) trivial (Below.refl _ _) (Nat.le_refl _) (by simp) ?_; (case hd => rfl); (case hg => rfl); (case hr => first | (go_simp; done) | (go_simp; rfl)); (case hp => exact Reps.none _ _)
    intro v12 wq7_ ho hb hg_ hnew_
    clear hg_ hnew_
    obtain ⟨A12, c12, e12⟩ := Kd.R_slice ho
    subst e12
    clear ho
    have u2_ := Aside0.mk (blk_below H2.out hb)
    have uB_ := Aside0.mk (below_step HB.out hb)
    have uO_ := Aside0.mk (Kd.R_below HO.out hb)
    clear hb H2 HB HO
    have H2 := u2_
    have HB := uB_
    have HO := uO_
    clear u2_ uB_ uO_
    refine hK.out _ _ ⟨(blk_cell H2.out 0).trans rfl, (blk_cell H2.out 1).trans rfl, (blk_cell H2.out 2).trans rfl⟩ (fun hHeld => ?_)
    clear hK K
    refine norm_ (a' := ?_) ?_ ?_
    rotate_left
    · show Act.put _ (some 12) _ = _
      simp only [Act.put, sz_, s0_, s1_, i64_w, i32_w]
      rfl
    refine one_ (i := 3) (N := some 14) (flg_ 12 1023) rfl rfl (one_of HT_.out (by kernel_rfl)) (by decide) (fun K hK => ?_)
    refine goes_ Try.func64 (by kernel_rfl) rfl #[.agg #[.int .i64 (W0 : Int), .int .i64 (H0 : Int), .slice A2 ships.length c2], .slice A12 ([] : List Int).length c12, .int .i64 0, .slice A3 T.length c3, .int .i64 (-1)] (by rfl) rfl rfl (by (try simp only [List.map_toArray, List.map_cons, List.map_nil]); first | done | rfl) ?_
    refine (spec_l09Go.does W0 H0 ships A2 c2 A3 c3 T HW.out.2 HH.out.2 HSz.out.2 HC2.out HTc.out HEnv.out.1 HEnv.out.2 ships.length [] 0 (-1) A12 c12 (fun _ => False) wq7_ HLen.out InPl.nil (by omega) (fnil_ _ _ _) (Nat.zero_le _) (Kd.C_below HT0.out HB.out) (Kd.C_below HSh.out HB.out)).mono ?_
    rintro e wq8_ ⟨v14, rfl, ho, hb⟩
    obtain ⟨A14, c14, e14⟩ := Kd.N_slice ho
    subst e14
    rw [HFl.out] at ho ⊢
    refine ⟨_, rfl, ?_⟩
    have hlt := Kd.R_lt HO.out go rfl
    have uL0_ := Aside0.mk (Kd.N_mono (ok' := fun k => k ≠ go) (Kd.N_lower ho (below_size HB.out)) (fun k hk e_ => by rcases hk with hk | hk; exact hk; omega))
    clear ho hlt
    have u2_ := Aside0.mk (blk_below H2.out hb)
    have uB_ := Aside0.mk (below_step HB.out hb)
    have uO_ := Aside0.mk (Kd.R_below HO.out hb)
    clear hb H2 HB HO
    have H2 := u2_
    have HB := uB_
    have HO := uO_
    clear u2_ uB_ uO_
    have HL := uL0_
    clear uL0_
    refine hK.out _ _ ⟨(blk_cell H2.out 0).trans rfl, (blk_cell H2.out 1).trans rfl, (blk_cell H2.out 2).trans rfl⟩ (fun hHeld => ?_)
    clear hK K
    refine norm_ (a' := ?_) ?_ ?_
    rotate_left
    · show Act.put _ (some 14) _ = _
      simp only [Act.put, sz_, s0_, s1_, i64_w, i32_w]
      rfl
    refine pure_ (i := 10) (N := some 6) (v := ?_) (a' := ?_) (flg_ 12 2047) rfl rfl (any_of HT_.out (by kernel_rfl)) (fun _ _ _ h => h) (Or.inl ⟨by rfl, ?_⟩) ?_ ?_
    rotate_left
    · intro w'
      go_simp
      with_reducible rfl
    rotate_left
    · simp only [Act.put, sz_, s0_, s1_, i64_w, i32_w]
      rfl
    generalize wq8_ = wz_ at H2 HB HO HL hHeld ⊢
  rotate_left
  all_goals
    refine pure_ (i := 11) (N := some 7) (v := ?_) (a' := ?_) (flg_ 12 4095) rfl rfl (any_of HT_.out (by kernel_rfl)) (fun _ _ _ h => h) (Or.inl ⟨by rfl, ?_⟩) ?_ ?_
    rotate_left
    · intro w'
      go_simp
      with_reducible rfl
    rotate_left
    · simp only [Act.put, sz_, s0_, s1_, i64_w, i32_w]
      rfl
    refine done_ (done_of HT_.out (by kernel_rfl)) ?_
    clear H2 hHeld
    (try go_wp2_with fail)
    go_loopg [8] fls.length (fun gg s8 wr => ∃ i : Nat, i ≤ fls.length ∧ fls.length - i ≤ gg ∧ s8 = .int .i64 i ∧ Aside0 (Kd.N (Kd.slice 2 (Kd.int .i64)) 22 wr w.heap.size (fun k => k ≠ go) (.slice A14 fls.length c14) fls) ∧ Aside0 (Kd.R (Kd.int .i64) 2 wr w.heap.size (fun k => k = go) (.slice (some ⟨go, 0, none⟩) N co) (sharesV N (fls.take i))) ∧ Aside0 (Below w.heap.size w wr))
    case atStart => exact ⟨0, Nat.zero_le _, Nat.le_refl _, rfl, HL, HO, HB⟩
    case round =>
      clear HL HO HB
      obtain ⟨i, hi, hgi, rfl, HL, HO, HB⟩ := hrel
      by_cases hlt : i < fls.length
      · obtain ⟨ad, cl_, rfl, hcl_, hK_, hcc⟩ := Kd.C_get (Kd.N_reads' HL.out).2.2 [] (i : Int) (by omega) (by omega)
        obtain ⟨Ae, ce, rfl, hle, hCe⟩ := hK_
        have hxe := hcc 0 _ rfl
        obtain ⟨fe, hfe⟩ : ∃ fe, fls[i] = fe := ⟨_, rfl⟩
        rw [Int.toNat_natCast, List.getD_eq_getElem?_getD, List.getElem?_eq_getElem hlt, Option.getD_some, hfe] at hxe hle hCe
        rw [show (Kd.slice 2 (Kd.int .i64)).sz = 1 from rfl, Nat.mul_one, Nat.add_zero] at hxe
        obtain ⟨hfl, V, hV, hV2⟩ := HNum.out fe (by rw [← hfe]; exact List.getElem_mem hlt)
        obtain ⟨ks, hks⟩ := specSet_ev fe hfl
        have hks2 := hks ks (Nat.le_refl _)
        rw [hV] at hks2
        obtain ⟨kc, hkc⟩ := specCells_ev (V : Int)
        obtain ⟨cs, hcs⟩ : ∃ cs, chosenTo (bitIn (V : Int)) 25 = cs := ⟨_, rfl⟩
        have hkc2 := hkc kc (Nat.le_refl _)
        simp only [hcs] at hkc2
        have HStep := Aside0.mk (fun (j : Nat) (hj : j < cs.length) => show ∃ c : Nat, cs[j] = (c : Int) ∧ c < N ∧ (c : Int) ∉ cs.take j by subst hcs; exact chosen_step hV2 HN25.out hj)
        have HFin := Aside0.mk (show shareSome N (fls.take i) cs = sharesV N (fls.take (i + 1)) by
          rw [List.take_succ_eq_append_getElem hlt, hfe, ← shareSome_all (n := 25) _ _ HN25.out, hV, hcs])
        have hcs25 : cs.length ≤ 25 := by rw [← hcs]; exact chosenTo_le _ 25
        have HSet := Aside0.mk hks2
        have HCs := Aside0.mk hkc2
        have HCe := Aside0.mk hCe
        have HLe := Aside0.mk hle
        have HC25 := Aside0.mk hcs25
        have q1 := decide_eq_true (show (i : Int) < (fls.length : Int) by omega)
        have q2 := decide_eq_true hlt
        have q3 := eq_true (show (i : Int) < (fls.length : Int) by omega)
        have q4 := eq_true (show (0 : Int) ≤ (i : Int) by omega)
        have q5 := eq_true hlt
        have HIm := Aside0.mk (show fls.length - (i + 1) < gk by omega)
        have HIr := Aside0.mk (show i + 1 ≤ fls.length by omega)
        have HIs := Aside0.mk (show wrap64 ((i : Int) + 1) = ((i + 1 : Nat) : Int) from wrap_nat1 hlt (by have := HFlen.out; omega))
        have HDn := Aside0.mk (show (fls.take i).length ≤ 1000000 by rw [List.length_take]; have := HFlen.out; omega)
        clear hcc hcl_ hks hks2 hkc hkc2 hcs hcs25 hV hV2 hfl hfe hle hCe hi hgi hlt
        go_wp2_with (first | (go_at_call 70; refine (spec_l09Set.calls ks Ae ce fe (V : Int) _ HCe.out HLe.out HSet.out).mono ?_; rintro e w3 ⟨rfl, hd⟩; have hb := hd.below; clear hd; (try clear hxe); have vHL_ := Aside0.mk (Kd.N_below HL.out hb); have vHO_ := Aside0.mk (Kd.R_below HO.out hb); have vHB_ := Aside0.mk (below_step HB.out hb); clear hb HL HO HB; have HL := vHL_; have HO := vHO_; have HB := vHB_; clear vHL_ vHO_ vHB_) | (go_at_call 69; refine (spec_l09Cells.calls kc (V : Int) cs _ HCs.out).mono ?_; rintro e w4 ⟨v32, rfl, ho, hb⟩; obtain ⟨Ac, cc, ec⟩ := Kd.R_slice ho; subst ec; have hlt := Kd.R_lt HO.out go rfl; have HC := Aside0.mk (Kd.R_lower (Kd.R_mono (ok' := fun k => k ≠ go) (Kd.R_bound ho) (fun k hk e_ => by have h1 := hk.2.1; omega)) (below_size HB.out)); clear ho hlt; have vHL_ := Aside0.mk (Kd.N_below HL.out hb); have vHO_ := Aside0.mk (Kd.R_below HO.out hb); have vHB_ := Aside0.mk (below_step HB.out hb); clear hb HL HO HB; have HL := vHL_; have HO := vHO_; have HB := vHB_; clear vHL_ vHO_ vHB_))
        (try clear hxe)
        clear q1 q2 q3 q4 q5
        go_loopg [10] cs.length (fun gg s10 wr => ∃ j : Nat, j ≤ cs.length ∧ cs.length - j ≤ gg ∧ s10 = .int .i64 j ∧ Aside0 (Kd.N (Kd.slice 2 (Kd.int .i64)) 22 wr w.heap.size (fun k => k ≠ go) (.slice (some ad) fls.length c14) fls) ∧ Aside0 (Kd.R (Kd.int .i64) 2 wr w.heap.size (fun k => k = go) (.slice (some ⟨go, 0, none⟩) N co) (shareSome N (fls.take i) (cs.take j))) ∧ Aside0 (Kd.R (Kd.int .i64) 2 wr w.heap.size (fun k => k ≠ go) (.slice Ac cs.length cc) cs) ∧ Aside0 (Below w.heap.size w wr))
        case atStart => exact ⟨0, Nat.zero_le _, Nat.le_refl _, rfl, HL, ⟨by rw [List.take_zero, shareSome_nil]; exact HO.out⟩, HC, HB⟩
        case round =>
          clear HL HO HC HB
          obtain ⟨j, hj, hgj, rfl, HL, HO, HC, HB⟩ := hrel
          by_cases hlt : j < cs.length
          · obtain ⟨c, hc, hcN, hcn⟩ := HStep.out j hlt
            obtain ⟨adc, rfl, hxc⟩ := Kd.at_int (Kd.R_reads' HC.out).2.2 (j : Int) (by omega) (by omega)
            rw [Int.toNat_natCast, rd_get cs j hlt, hc] at hxc
            obtain ⟨ado, eo, hxo⟩ := Kd.at_int (Kd.R_reads' HO.out).2.2 (c : Int) (by omega) (by rw [shareSome_len]; omega)
            injection eo with eo
            subst eo
            rw [Int.toNat_natCast, shareSome_rd _ _ hcN hcn, add_at, Nat.zero_add] at hxo
            have hsb := shareAt_bound (fls.take i) c
            obtain ⟨cells_, hrb⟩ := row_blk_ HO.out (by rw [shareSome_len]; exact HNp.out)
            have hfR := blk_frozen hrb c
            obtain ⟨z, hz⟩ : ∃ z, shareAt (fls.take i) c + 1 = z := ⟨_, rfl⟩
            have HSv := Aside0.mk (show (shareSome N (fls.take i) (cs.take j)).set c z = shareSome N (fls.take i) (cs.take (j + 1)) by rw [← hz, shareSome_set _ _ hcN hcn, List.take_succ_eq_append_getElem hlt, hc])
            obtain ⟨sv, hsv⟩ : ∃ sv, shareAt (fls.take i) c = sv := ⟨_, rfl⟩
            rw [hsv] at hz hsb hxo
            have hwz : wrap64 (sv + 1) = z := by rw [← hz]; have := HDn.out; unfold wrap64; omega
            have p1 := decide_eq_true (show (j : Int) < (cs.length : Int) by omega)
            have p2 := decide_eq_true hlt
            have p3 := eq_true (show (j : Int) < (cs.length : Int) by omega)
            have p4 := eq_true (show (0 : Int) ≤ (j : Int) by omega)
            have p5 := eq_true hlt
            have p6 := eq_true (show (0 : Int) ≤ (c : Int) by omega)
            have p7 := eq_true (show (c : Int) < (N : Int) by omega)
            have p8 := eq_true hcN
            have HJm := Aside0.mk (show cs.length - (j + 1) < gk by omega)
            have HJr := Aside0.mk (show j + 1 ≤ cs.length by omega)
            have HJs := Aside0.mk (show wrap64 ((j : Int) + 1) = ((j + 1 : Nat) : Int) from wrap_one (a := j) (by have := HC25.out; omega))
            clear hsb hrb hz hsv hc hcn hcN hj hgj hlt
            go_wp2_with fail
            go_roundg (cs.length - (j + 1))
            case measure => exact HJm.out
            case rel => exact ⟨j + 1, HJr.out, Nat.le_refl _, (by first | rfl | exact congrArg (Value.int .i64) HJs.out), ⟨Kd.N_far (p := ⟨go, c, none⟩) HL.out (fun _ hk => hk) (.int .i64 z)⟩, ⟨by have vO_ := Kd.R_putn HO.out (c : Int) z; rw [Int.toNat_natCast, HSv.out] at vO_; exact vO_⟩, ⟨Kd.R_far (p := ⟨go, c, none⟩) HC.out (fun _ hk => hk) (.int .i64 z)⟩, ⟨below_set HB.out HZO.out⟩⟩
          · have hje : j = cs.length := by omega
            subst hje
            have p1 := decide_eq_false (show ¬ (cs.length : Int) < (cs.length : Int) by omega)
            go_wp2_with fail
            go_roundg (fls.length - (i + 1))
            case measure => exact HIm.out
            case rel => exact ⟨i + 1, HIr.out, Nat.le_refl _, (by first | rfl | exact congrArg (Value.int .i64) HIs.out), HL, ⟨by have := HO.out; rw [List.take_length, HFin.out] at this; exact this⟩, HB⟩
      · have hie : i = fls.length := by omega
        subst hie
        have q1 := decide_eq_false (show ¬ (fls.length : Int) < (fls.length : Int) by omega)
        go_wp2_with fail
        go_ret2
        exact ⟨_, rfl, Kd.R_mono (by have := HO.out; rw [List.take_length] at this; exact this) (fun _ _ => trivial), HB.out⟩
/-! ### spec_l09Open: function 94 -/
-- EXTERNAL: by hand
-- seaV_nat shotsIn
def openTo (N j : Nat) : List Bool := (List.range N).map fun c => decide (c < j)
/-- The cells at which no shot was. -/
def openB (N : Nat) (T : List S93) : List Bool := (List.range N).map fun (c : Nat) => !(T.any fun x => x.f0 == (c : Int))
theorem openTo_len (N j : Nat) : (openTo N j).length = N := by simp [openTo]
theorem openB_len (N : Nat) (T : List S93) : (openB N T).length = N := by simp [openB]
theorem openTo_zero (N : Nat) : openTo N 0 = List.replicate N false := by
  refine List.ext_getElem (by simp [openTo]) (fun i h1 h2 => ?_)
  simp [openTo]
theorem openTo_all (N : Nat) : openTo N N = openB N [] := by
  unfold openTo openB
  refine List.map_congr_left (fun c h => ?_)
  have := List.mem_range.1 h
  simp [this]
theorem openTo_set {N j : Nat} (_h : j < N) : (openTo N j).set j true = openTo N (j + 1) := by
  refine List.ext_getElem (by simp [openTo]) (fun i h1 h2 => ?_)
  rw [List.getElem_set]
  by_cases e : j = i
  · subst e
    simp [openTo]
  · rw [if_neg e]
    simp only [openTo, List.getElem_map, List.getElem_range]
    exact decide_eq_decide.2 (by omega)
theorem openB_set {N c : Nat} (T : List S93) (x : S93) (hx : x.f0 = (c : Int)) : (openB N T).set c false = openB N (T ++ [x]) := by
  refine List.ext_getElem (by simp [openB]) (fun i h1 h2 => ?_)
  rw [List.getElem_set]
  simp only [openB, List.getElem_map, List.getElem_range, List.any_append, List.any_cons, List.any_nil, Bool.or_false, hx]
  by_cases e : c = i
  · subst e
    simp
  · rw [if_neg e, show ((c : Int) == (i : Int)) = false from beq_eq_false_iff_ne.mpr (by omega), Bool.or_false]
def shotsBelow (N : Nat) (T : List S93) : Bool := T.all fun x => decide (0 ≤ x.f0) && decide (x.f0 < (N : Int))
def spec_l09Open.f (a0_0 a0_1 : Int) (l0_2 : List Int) (l1 : List S93) : Option (List Bool) := if seaV a0_0 a0_1 l0_2 = true ∧ shotsBelow (a0_0.toNat * a0_1.toNat) l1 = true ∧ l1.length ≤ 1048576 then some (openB (a0_0.toNat * a0_1.toNat) l1) else none
theorem wrap_nat4_ {N : Nat} (h : N ≤ 25) : wrap64 (N : Int) = (N : Int) := by unfold wrap64; omega
theorem bool_blk_ {W : World} {base go n co : Nat} {ok : Nat → Prop} {xs : List Bool} (ho : Kd.R Kd.bool 4 W base ok (.slice (some ⟨go, 0, none⟩) n co) xs) (h : 0 < xs.length) : ∃ cells, W.heap[go]? = some (.cells cells 4 (0, 0)) := by
  obtain ⟨g, cap, e2, _, _, cells, hc⟩ := Kd.R_form ho h
  injection e2 with e3
  injection e3 with e3
  injection e3 with e3
  subst e3
  exact ⟨cells, hc⟩
set_option maxHeartbeats 8000000 in
set_option maxRecDepth 100000 in
theorem spec_l09Open.calls (a0_0 a0_1 : Int) (A2 : Option Addr) (c2 : Nat) (ships : List Int) (A3 : Option Addr) (c3 : Nat) (T : List S93) (r : List Bool) (w : World) (hr0_2 : Kd.C (Kd.int .i64) w A2 ships.length ships) (hc0_2 : ships.length ≤ c2) (hr1 : Kd.C k93 w A3 T.length T) (hc1 : T.length ≤ c3) (h : spec_l09Open.f a0_0 a0_1 ships T = some r) :
    Calls Try.prog 94 #[.agg #[.int .i64 a0_0, .int .i64 a0_1, .slice A2 ships.length c2], .slice A3 T.length c3] w fun e w' => ∃ v0_ : Value, e = .returned (v0_) ∧ Kd.R Kd.bool 4 w' w.heap.size (fun _ => True) v0_ r ∧ Below w.heap.size w w' := by
  unfold spec_l09Open.f at h
  split at h
  case isFalse => cases h
  rename_i hs
  obtain ⟨hs, hsb, hTl⟩ := hs
  obtain ⟨⟨W0, rfl, hw1, hw5⟩, ⟨H0, rfl, hh1, hh5⟩, hs1, hs3⟩ := seaV_nat hs
  simp only [Int.toNat_natCast, Option.some.injEq] at h hsb
  obtain ⟨N, hN⟩ : ∃ N, W0 * H0 = N := ⟨_, rfl⟩
  rw [hN] at h hsb
  subst h
  have HT := Aside0.mk hr1
  have HTc := Aside0.mk hc1
  have HTl := Aside0.mk hTl
  have HIn := Aside0.mk (fun (i : Nat) (hi : i < T.length) => show 0 ≤ T[i].f0 ∧ T[i].f0 < (N : Int) by
    have := List.all_eq_true.1 hsb _ (List.getElem_mem hi)
    simpa using this)
  have hN25 : N ≤ 25 := by rw [← hN]; exact Nat.mul_le_mul hw5 hh5
  have HN25 := Aside0.mk hN25
  have HNp := Aside0.mk (show 0 < N by rw [← hN]; exact Nat.mul_pos (by omega) (by omega))
  have hwn : wrap64 ((W0 : Int) * (H0 : Int)) = (N : Int) := by rw [show (W0 : Int) * (H0 : Int) = (N : Int) by rw [← hN, Int.natCast_mul], wrap_nat4_ hN25]
  have HN0 := Aside0.mk (show (0 : Int) ≤ wrap64 ((W0 : Int) * (H0 : Int)) by rw [hwn]; exact Int.natCast_nonneg N)
  have HN8 := Aside0.mk (show (wrap64 ((W0 : Int) * (H0 : Int))).toNat * 1 ≤ 281474976710656 by rw [hwn, Int.toNat_natCast]; clear hwn; omega)
  have HNe := Aside0.mk (show (wrap64 ((W0 : Int) * (H0 : Int))).toNat = N by rw [hwn, Int.toNat_natCast])
  have hu28 := Try.underlying28
  have hu93 := Try.underlying93
  clear hr0_2 hc0_2 hr1 hc1 hs hsb hTl hw1 hw5 hh1 hh5 hs1 hs3 hN hN25 hwn
  go_enter Try.func94, Try.ntmps94
  go_wp2_with (first | ((with_reducible refine gate_dst (N := 2) rfl ?_); refine box_event ?hg (N := 2) ?hd (cs := #[.int .i64 (W0 : Int), .int .i64 (H0 : Int), .slice A2 ships.length c2]) (t := 28) ?hr ?_; (case hd => rfl); (case hg => rfl); (case hr => first | (go_simp; done) | (go_simp; rfl)); intro g2 hg2 w1 hbox hb; have H2 := Aside0.mk hbox; have HB := Aside0.mk hb; clear hbox hb hg2; have s0_ := (blk_cell H2.out 0).trans rfl; have s1_ := (blk_cell H2.out 1).trans rfl) | ((with_reducible refine gate_dst (N := 13) rfl ?_); refine Kd.R_make Kd.bool _ 4 rfl (N := 13) rfl 101 _ _ rfl (wrap64 ((W0 : Int) * (H0 : Int))) rfl rfl Try.underlying101 (.bool false) 1 info4 rfl (by decide) (by omega) false (ok := fun _ => True) (okp := fun _ => True) rfl (fun _ hk => hk) trivial HN0.out HN8.out (Below.refl _ _) (Nat.le_refl _) ?_; intro v13 w2 ho hb hg_ hnew_; clear hg_ hnew_; rw [HNe.out, ← openTo_zero] at ho; obtain ⟨go, co, e13, hgo_, _, _⟩ := Kd.R_form ho (by rw [openTo_len]; exact HNp.out); rw [openTo_len] at e13; subst e13; have HZO := Aside0.mk (show w.heap.size ≤ go by have := below_size HB.out; omega); have HO := Aside0.mk (Kd.R_mono (ok' := fun k => k = go) (Kd.R_tight rfl (Kd.R_lower ho (below_size HB.out))) (fun k hk => by injection hk)); clear ho hgo_; (try clear s0_); (try clear s1_); have n_ := Aside0.mk (below_step HB.out hb); clear hb HB H2; have HB := n_; clear n_))
  go_loopg [16] N (fun gg s16 wr => ∃ j : Nat, j ≤ N ∧ N - j ≤ gg ∧ s16 = .int .i64 j ∧ Aside0 (Kd.R Kd.bool 4 wr w.heap.size (fun k => k = go) (.slice (some ⟨go, 0, none⟩) N co) (openTo N j)) ∧ Aside0 (Below w.heap.size w wr))
  case atStart => exact ⟨0, Nat.zero_le _, Nat.le_refl _, rfl, HO, HB⟩
  case round =>
    clear HO HB
    obtain ⟨j, hj, hgj, rfl, HO, HB⟩ := hrel
    by_cases hlt : j < N
    · obtain ⟨cells_, hrb⟩ := bool_blk_ HO.out (by rw [openTo_len]; exact HNp.out)
      have hfR := blk_frozen hrb j
      obtain ⟨ado, eo, hxo⟩ := Kd.at_bool (Kd.R_reads' HO.out).2.2 (j : Int) (by omega) (by rw [openTo_len]; omega)
      injection eo with eo
      subst eo
      rw [Int.toNat_natCast, add_at, Nat.zero_add] at hxo
      have HSv := Aside0.mk (openTo_set hlt)
      have q1 := decide_eq_true (show (j : Int) < (N : Int) by omega)
      have q2 := decide_eq_true hlt
      have q3 := eq_true (show (j : Int) < (N : Int) by omega)
      have q4 := eq_true (show (0 : Int) ≤ (j : Int) by omega)
      have q5 := eq_true hlt
      have HJm := Aside0.mk (show N - (j + 1) < gk by omega)
      have HJr := Aside0.mk (show j + 1 ≤ N by omega)
      have HJs := Aside0.mk (show wrap64 ((j : Int) + 1) = ((j + 1 : Nat) : Int) from wrap_one (a := j) (by have := HN25.out; omega))
      clear hrb hj hgj hlt
      go_wp2_with fail
      go_roundg (N - (j + 1))
      case measure => exact HJm.out
      case rel => exact ⟨j + 1, HJr.out, Nat.le_refl _, (by first | rfl | exact congrArg (Value.int .i64) HJs.out), ⟨by have vO_ := Kd.R_putn HO.out (j : Int) true; rw [Int.toNat_natCast, HSv.out] at vO_; exact vO_⟩, ⟨below_set HB.out HZO.out⟩⟩
    · have hje : j = N := by omega
      subst hje
      have q1 := decide_eq_false (show ¬ (j : Int) < (j : Int) by omega)
      have HO2 := Aside0.mk (show Kd.R Kd.bool 4 wr w.heap.size (fun k => k = go) (.slice (some ⟨go, 0, none⟩) j co) (openB j (T.take 0)) by rw [List.take_zero, ← openTo_all]; exact HO.out)
      clear HO
      go_wp2_with fail
      go_loopg [7] T.length (fun gg s7 wr => ∃ i : Nat, i ≤ T.length ∧ T.length - i ≤ gg ∧ s7 = .int .i64 i ∧ Aside0 (Kd.R Kd.bool 4 wr w.heap.size (fun k => k = go) (.slice (some ⟨go, 0, none⟩) j co) (openB j (T.take i))) ∧ Aside0 (Below w.heap.size w wr))
      case atStart => exact ⟨0, Nat.zero_le _, Nat.le_refl _, rfl, HO2, HB⟩
      case round =>
        clear HO2 HB q1
        obtain ⟨i, hi, hgi, rfl, HO, HB⟩ := hrel
        by_cases hlt : i < T.length
        · obtain ⟨adT, rfl, hc1, hc2⟩ := at_T93 (Kd.C_below HT.out HB.out) (i : Int) (by omega) (by omega)
          rw [rd93_get T i hlt, Int.toNat_natCast] at hc1 hc2
          have hin := HIn.out i hlt
          have hset := openB_set (N := j) (T.take i) T[i] (c := T[i].f0.toNat) (by omega)
          rw [← List.take_succ_eq_append_getElem hlt] at hset
          generalize T[i] = x at hc1 hc2 hin hset
          obtain ⟨c, hc⟩ : ∃ c : Nat, x.f0 = (c : Int) := ⟨x.f0.toNat, by omega⟩
          rw [hc] at hc1 hin hset
          rw [Int.toNat_natCast] at hset
          obtain ⟨cells_, hrb⟩ := bool_blk_ HO.out (by rw [openB_len]; exact HNp.out)
          have hfR := blk_frozen hrb c
          obtain ⟨ado, eo, hxo⟩ := Kd.at_bool (Kd.R_reads' HO.out).2.2 (c : Int) hin.1 (by rw [openB_len]; exact hin.2)
          injection eo with eo
          subst eo
          rw [Int.toNat_natCast, add_at, Nat.zero_add] at hxo
          have HSv := Aside0.mk hset
          have q1 := decide_eq_true (show (i : Int) < (T.length : Int) by omega)
          have q2 := decide_eq_true hlt
          have q3 := eq_true (show (i : Int) < (T.length : Int) by omega)
          have q4 := eq_true (show (0 : Int) ≤ (i : Int) by omega)
          have q5 := eq_true hlt
          have p6 := eq_true hin.1
          have p7 := eq_true hin.2
          have p8 := eq_true (show c < j by omega)
          have HJm := Aside0.mk (show T.length - (i + 1) < gk by omega)
          have HJr := Aside0.mk (show i + 1 ≤ T.length by omega)
          have HJs := Aside0.mk (show wrap64 ((i : Int) + 1) = ((i + 1 : Nat) : Int) from wrap_nat1 hlt HTl.out)
          clear hrb hi hgi hlt hin hset hc
          go_wp2_with fail
          go_roundg (T.length - (i + 1))
          case measure => exact HJm.out
          case rel => exact ⟨i + 1, HJr.out, Nat.le_refl _, (by first | rfl | exact congrArg (Value.int .i64) HJs.out), ⟨by have vO_ := Kd.R_putn HO.out (c : Int) false; rw [Int.toNat_natCast, HSv.out] at vO_; exact vO_⟩, ⟨below_set HB.out HZO.out⟩⟩
        · have hie : i = T.length := by omega
          subst hie
          have q1 := decide_eq_false (show ¬ (T.length : Int) < (T.length : Int) by omega)
          go_wp2_with fail
          go_ret
          exact ⟨_, rfl, Kd.R_mono (by have := HO.out; rw [List.take_length] at this; exact this) (fun _ _ => trivial), HB.out⟩
/-! ### spec_CertainCells: function 52 -/
mutual
def spec_CertainCells.l0 : Nat → List Int → Int → List Bool → List Int → List Int → Int → Option (List Int × List Int × Int)
 | 0, _, _, _, _, _, _ => none
 | k + 1, x8, x9, x10, x11, x12, x13 => if x13 < (x10.length : Int) then (if 0 ≤ x13 then (if rdOf false x10 x13 = true then (if x13 < (x8.length : Int) then (spec_CertainCells.j1 k x8 x9 x10 x11 x12 x13 ((rd x8 x13) == x9)) else (none)) else (spec_CertainCells.j1 k x8 x9 x10 x11 x12 x13 false)) else (none)) else (some (x11, x12, 0))
def spec_CertainCells.j1 : Nat → List Int → Int → List Bool → List Int → List Int → Int → Bool → Option (List Int × List Int × Int)
 | 0, _, _, _, _, _, _, _ => none
 | k + 1, x8, x9, x10, x11, x12, x13, x39 => if x39 = true then (if x11.length < 17592186044416 then (spec_CertainCells.l0 k x8 x9 x10 (x11 ++ [x13]) x12 (wrap64 (x13 + 1))) else (none)) else (if 0 ≤ x13 then (if x13 < (x10.length : Int) then (if rdOf false x10 x13 = true then (if x13 < (x8.length : Int) then (if (rd x8 x13) = 0 then (if x12.length < 17592186044416 then (spec_CertainCells.l0 k x8 x9 x10 x11 (x12 ++ [x13]) (wrap64 (x13 + 1))) else (none)) else (spec_CertainCells.l0 k x8 x9 x10 x11 x12 (wrap64 (x13 + 1)))) else (none)) else (spec_CertainCells.l0 k x8 x9 x10 x11 x12 (wrap64 (x13 + 1)))) else (none)) else (none))
end
def spec_CertainCells.f (k : Nat) (a0_0 : Int) (a0_1 : Int) (l0_2 : List Int) (l1 : List (S93)) : Option (List Int × List Int × Int) := (spec_l09Shots.f k a0_0 a0_1 l0_2 l1).bind fun t1009 => (if t1009 = 0 then ((spec_l09Shares.f a0_0 a0_1 l0_2 l1).bind fun bt1010 => (if bt1010.2 = 0 then (some (([] : List Int), ([] : List Int), 4)) else ((spec_l09Open.f a0_0 a0_1 l0_2 l1).bind fun t1014 => (spec_CertainCells.l0 k bt1010.1 bt1010.2 t1014 (([] : List Int)) (([] : List Int)) 0)))) else (some (([] : List Int), ([] : List Int), t1009)))
set_option maxHeartbeats 8000000 in
set_option maxRecDepth 100000 in
theorem spec_CertainCells.calls (k : Nat) (a0_0 : Int) (a0_1 : Int) (A0_2 : Option Addr) (c0_2 : Nat) (l0_2 : List Int) (A1 : Option Addr) (c1 : Nat) (l1 : List (S93)) (r1 : List Int) (r2 : List Int) (r3 : Int) (w : World) (hr0_2 : Kd.C (Kd.int .i64) w A0_2 l0_2.length l0_2) (hc0_2 : l0_2.length ≤ c0_2) (hr1 : Kd.C k93 w A1 l1.length l1) (hc1 : l1.length ≤ c1) (h : spec_CertainCells.f k a0_0 a0_1 l0_2 l1 = some (r1, r2, r3)) :
  Calls Try.prog 52 #[.agg #[.int .i64 a0_0, .int .i64 a0_1, .slice A0_2 l0_2.length c0_2], .slice A1 l1.length c1] w fun e w' => ∃ v0_ v1_ : Value, e = .returned (.tuple #[v0_, v1_, .int .i64 r3]) ∧ Kd.R (Kd.int .i64) 2 w' w.heap.size (fun k_ => some k_ ≠ (v1_ : Value).ownBlock) v0_ r1 ∧ Kd.R (Kd.int .i64) 2 w' w.heap.size (fun k_ => some k_ ≠ (v0_ : Value).ownBlock) v1_ r2 ∧ Below w.heap.size w w' := by
 have hu28 := Try.underlying28
 have HR0_2 := Aside0.mk hr0_2
 have HC0_2 := Aside0.mk hc0_2
 clear hr0_2 hc0_2
 have HR1 := Aside0.mk hr1
 have HC1 := Aside0.mk hc1
 clear hr1 hc1
 have HB := Aside0.mk (Below.refl w.heap.size w)
 have H : ((spec_l09Shots.f k a0_0 a0_1 l0_2 l1).bind fun t1009 => (if t1009 = 0 then ((spec_l09Shares.f a0_0 a0_1 l0_2 l1).bind fun bt1010 => (if bt1010.2 = 0 then (some (([] : List Int), ([] : List Int), 4)) else ((spec_l09Open.f a0_0 a0_1 l0_2 l1).bind fun t1014 => (spec_CertainCells.l0 k bt1010.1 bt1010.2 t1014 (([] : List Int)) (([] : List Int)) 0)))) else (some (([] : List Int), ([] : List Int), t1009)))) = some (r1, r2, r3) := h
 clear h
 replace H := Option.bind_eq_some_iff.mp H
 obtain ⟨t1009, A30, H⟩ := H
 replace H : (if t1009 = 0 then ((spec_l09Shares.f a0_0 a0_1 l0_2 l1).bind fun bt1010 => (if bt1010.2 = 0 then (some (([] : List Int), ([] : List Int), 4)) else ((spec_l09Open.f a0_0 a0_1 l0_2 l1).bind fun t1014 => (spec_CertainCells.l0 k bt1010.1 bt1010.2 t1014 (([] : List Int)) (([] : List Int)) 0)))) else (some (([] : List Int), ([] : List Int), t1009))) = some (r1, r2, r3) := H
 have A3 := Aside0.mk A30
 clear A30
 by_cases c4 : t1009 = 0
 ·rw [if_pos c4] at H
  have c4b0 : (t1009 == 0) = true := beq_iff_eq.mpr c4
  have c4b1 : (t1009 != 0) = false := bne_eq_false_iff_eq.mpr c4
  clear c4
  replace H := Option.bind_eq_some_iff.mp H
  obtain ⟨⟨t1010, t1013⟩, A50, H⟩ := H
  replace H : (if t1013 = 0 then (some (([] : List Int), ([] : List Int), 4)) else ((spec_l09Open.f a0_0 a0_1 l0_2 l1).bind fun t1014 => (spec_CertainCells.l0 k t1010 t1013 t1014 (([] : List Int)) (([] : List Int)) 0))) = some (r1, r2, r3) := H
  have A5 := Aside0.mk A50
  clear A50
  by_cases c6 : t1013 = 0
  ·rw [if_pos c6] at H
   have c6b0 : (t1013 == 0) = true := beq_iff_eq.mpr c6
   have c6b1 : (t1013 != 0) = false := bne_eq_false_iff_eq.mpr c6
   clear c6
   simp only [Option.some.injEq, Prod.mk.injEq] at H
   obtain ⟨rfl, rfl, rfl⟩ := H
   go_enter Try.func52, Try.ntmps52
   go_wp2_with (first | ((with_reducible refine gate_dst (N := 2) rfl ?_); refine box_event ?hg (N := 2) ?hd (cs := #[.int .i64 a0_0, .int .i64 a0_1, .slice A0_2 l0_2.length c0_2]) (t := 28) ?hr ?_; (case hd => rfl); (case hg => rfl); (case hr => first | (go_simp; done) | (go_simp; rfl)); intro gb1008 hg w7 hbox hb; have n0_ := Aside0.mk (below_step hb_ hb); have n1_ := Aside0.mk (hbox); have n2_ := Aside0.mk ((by rw [hg]; exact (below_size hb_) : w.heap.size ≤ gb1008)); have n3_ := Aside0.mk ((by rw [hg]; exact (below_size hb_) : w.heap.size ≤ gb1008)); clear HB; have HB := n0_; have BK1008 := n1_; have GW1008 := n2_; have GE1008 := n3_; clear n0_ n1_ n2_ n3_; clear hb hbox hg; have hcz8_0 : w7.cell? ⟨gb1008, 0, none⟩ = some (.int .i64 a0_0) := (blk_cell BK1008.out 0).trans rfl; have hcz8_1 : w7.cell? ⟨gb1008, 1, none⟩ = some (.int .i64 a0_1) := (blk_cell BK1008.out 1).trans rfl; have hcz8_2 : w7.cell? ⟨gb1008, 2, none⟩ = some (.slice A0_2 l0_2.length c0_2) := (blk_cell BK1008.out 2).trans rfl; have hfz8_0 := blk_frozen BK1008.out 0; have hfz8_1 := blk_frozen BK1008.out 1; have hfz8_2 := blk_frozen BK1008.out 2) | ((with_reducible refine gate_callee (f := 83) rfl ?_); refine goesA_ (some 16) rfl rfl Try.func83 (by kernel_rfl) rfl #[.agg #[.int .i64 a0_0, .int .i64 a0_1, .slice A0_2 l0_2.length c0_2], .slice A1 l1.length c1] rfl ?_; (with_reducible refine (spec_l09Shots.calls k a0_0 a0_1 _ _ l0_2 _ _ l1 t1009 _ ?side1 ?side2 ?side3 ?side4 A3.out).mono ?_); (case side1 => repeat (first | exact (Kd.C_below HR0_2.out HB.out) | (with_reducible refine Kd.C_alloc ?_ _) | (with_reducible refine Kd.C_drewN ?_ _) | (with_reducible refine Kd.C_drew ?_))); (case side2 => exact HC0_2.out); (case side3 => repeat (first | exact (Kd.C_below HR1.out HB.out) | (with_reducible refine Kd.C_alloc ?_ _) | (with_reducible refine Kd.C_drewN ?_ _) | (with_reducible refine Kd.C_drew ?_))); (case side4 => exact HC1.out); rintro e w9 ⟨rfl, hb⟩; refine ⟨_, rfl, ?_⟩; have n0_ := Aside0.mk (blk_below (g := gb1008) (o := .cells #[.int .i64 a0_0, .int .i64 a0_1, .slice A0_2 l0_2.length c0_2] 28 (0, 0)) (by (with_reducible repeat (first | refine blk_drewN ?_ _ | refine blk_drew ?_ | refine blk_alloc ?_ _)); exact BK1008.out) hb); have n1_ := Aside0.mk (below_step (by repeat (first | (with_reducible first | exact HB.out | apply below_alloc | apply pw_below_drewN | apply below_drew1 | refine below_set ?_ GE1008.out) | exact HB.out)) hb); clear BK1008; clear HB; have BK1008 := n0_; have HB := n1_; clear n0_ n1_; (try clear hb); (try clear hb2); (try clear hk); (try clear hi); have hcz10_0 : w9.cell? ⟨gb1008, 0, none⟩ = some (.int .i64 a0_0) := (blk_cell BK1008.out 0).trans rfl; have hcz10_1 : w9.cell? ⟨gb1008, 1, none⟩ = some (.int .i64 a0_1) := (blk_cell BK1008.out 1).trans rfl; have hcz10_2 : w9.cell? ⟨gb1008, 2, none⟩ = some (.slice A0_2 l0_2.length c0_2) := (blk_cell BK1008.out 2).trans rfl; have hfz10_0 := blk_frozen BK1008.out 0; have hfz10_1 := blk_frozen BK1008.out 1; have hfz10_2 := blk_frozen BK1008.out 2) | ((with_reducible refine gate_callee (f := 91) rfl ?_); refine goesA_ (some 23) rfl rfl Try.func91 (by kernel_rfl) rfl #[.agg #[.int .i64 a0_0, .int .i64 a0_1, .slice A0_2 l0_2.length c0_2], .slice A1 l1.length c1] rfl ?_; (with_reducible refine (spec_l09Shares.calls a0_0 a0_1 _ _ l0_2 _ _ l1 t1010 t1013 _ ?side1 ?side2 ?side3 ?side4 A5.out).mono ?_); (case side1 => repeat (first | exact (Kd.C_below HR0_2.out HB.out) | (with_reducible refine Kd.C_alloc ?_ _) | (with_reducible refine Kd.C_drewN ?_ _) | (with_reducible refine Kd.C_drew ?_))); (case side2 => exact HC0_2.out); (case side3 => repeat (first | exact (Kd.C_below HR1.out HB.out) | (with_reducible refine Kd.C_alloc ?_ _) | (with_reducible refine Kd.C_drewN ?_ _) | (with_reducible refine Kd.C_drew ?_))); (case side4 => exact HC1.out); rintro e w11 ⟨v1011, rfl, ho0, hb⟩; refine ⟨_, rfl, ?_⟩; have n0_ := Aside0.mk (Kd.R_lower ho0 (below_size (by repeat (first | (with_reducible first | exact HB.out | apply below_alloc | apply pw_below_drewN | apply below_drew1 | refine below_set ?_ GE1008.out) | exact HB.out)))); have n1_ := Aside0.mk (blk_below (g := gb1008) (o := .cells #[.int .i64 a0_0, .int .i64 a0_1, .slice A0_2 l0_2.length c0_2] 28 (0, 0)) (by (with_reducible repeat (first | refine blk_drewN ?_ _ | refine blk_drew ?_ | refine blk_alloc ?_ _)); exact BK1008.out) hb); have n2_ := Aside0.mk (below_step (by repeat (first | (with_reducible first | exact HB.out | apply below_alloc | apply pw_below_drewN | apply below_drew1 | refine below_set ?_ GE1008.out) | exact HB.out)) hb); clear BK1008; clear HB; have HO1012 := n0_; have BK1008 := n1_; have HB := n2_; clear n0_ n1_ n2_; (try clear hb); (try clear hb2); (try clear hk); (try clear hi); (try clear ho0)))
   go_ret3
   exact ⟨_, _, by first | rfl | (simp [errW_none, errW_some] <;> rfl) | (simp [*, errW_none, errW_some] <;> rfl), by first | exact Kd.R_nil _ _ _ _ _ | exact Kd.N_nil _ _ _ _ _ | exact Kd.V_nil _ _ _ _ _ | exact Kd.Q_nil _ _ _ _ _ | exact Kd.S_nil _ _ _ _ _, by first | exact Kd.R_nil _ _ _ _ _ | exact Kd.N_nil _ _ _ _ _ | exact Kd.V_nil _ _ _ _ _ | exact Kd.Q_nil _ _ _ _ _ | exact Kd.S_nil _ _ _ _ _, by repeat (first | (with_reducible first | exact HB.out | apply below_alloc | apply pw_below_drewN | apply below_drew1 | refine below_set ?_ GE1008.out) | exact HB.out)⟩
  ·rw [if_neg c6] at H
   have c6b0 : (t1013 == 0) = false := beq_eq_false_iff_ne.mpr c6
   have c6b1 : (t1013 != 0) = true := bne_iff_ne.mpr c6
   replace H := Option.bind_eq_some_iff.mp H
   obtain ⟨t1014, A120, H⟩ := H
   replace H : (spec_CertainCells.l0 k t1010 t1013 t1014 (([] : List Int)) (([] : List Int)) 0) = some (r1, r2, r3) := H
   have A12 := Aside0.mk A120
   clear A120
   obtain ⟨y1017, hy1017⟩ : ∃ y_ : List Int, y_ = (([] : List Int)) := ⟨_, rfl⟩
   replace H : (spec_CertainCells.l0 k t1010 t1013 t1014 y1017 (([] : List Int)) 0) = some (r1, r2, r3) := by first | (rw [hy1017]; with_reducible exact H) | (have H2_ := (Option.bind_some _ _).symm.trans H; rw [hy1017]; with_reducible exact H2_) | (have H2_ := (Option.bind_some _ _).symm.trans H; with_reducible exact H2_) | with_reducible exact H | (rw [hy1017]; exact H) | exact H
   have Ny1017 := Aside0.mk hy1017
   clear hy1017
   obtain ⟨y1020, hy1020⟩ : ∃ y_ : List Int, y_ = (([] : List Int)) := ⟨_, rfl⟩
   replace H : (spec_CertainCells.l0 k t1010 t1013 t1014 y1017 y1020 0) = some (r1, r2, r3) := by first | (rw [hy1020]; with_reducible exact H) | (have H2_ := (Option.bind_some _ _).symm.trans H; rw [hy1020]; with_reducible exact H2_) | (have H2_ := (Option.bind_some _ _).symm.trans H; with_reducible exact H2_) | with_reducible exact H | (rw [hy1020]; exact H) | exact H
   have Ny1020 := Aside0.mk hy1020
   clear hy1020
   have H' := Aside0.mk H
   clear H
   go_enter Try.func52, Try.ntmps52
   go_wp2_with (first | ((with_reducible refine gate_dst (N := 2) rfl ?_); refine box_event ?hg (N := 2) ?hd (cs := #[.int .i64 a0_0, .int .i64 a0_1, .slice A0_2 l0_2.length c0_2]) (t := 28) ?hr ?_; (case hd => rfl); (case hg => rfl); (case hr => first | (go_simp; done) | (go_simp; rfl)); intro gb1008 hg w13 hbox hb; have n0_ := Aside0.mk (below_step hb_ hb); have n1_ := Aside0.mk (hbox); have n2_ := Aside0.mk ((by rw [hg]; exact (below_size hb_) : w.heap.size ≤ gb1008)); have n3_ := Aside0.mk ((by rw [hg]; exact (below_size hb_) : w.heap.size ≤ gb1008)); clear HB; have HB := n0_; have BK1008 := n1_; have GW1008 := n2_; have GE1008 := n3_; clear n0_ n1_ n2_ n3_; clear hb hbox hg; have hcz14_0 : w13.cell? ⟨gb1008, 0, none⟩ = some (.int .i64 a0_0) := (blk_cell BK1008.out 0).trans rfl; have hcz14_1 : w13.cell? ⟨gb1008, 1, none⟩ = some (.int .i64 a0_1) := (blk_cell BK1008.out 1).trans rfl; have hcz14_2 : w13.cell? ⟨gb1008, 2, none⟩ = some (.slice A0_2 l0_2.length c0_2) := (blk_cell BK1008.out 2).trans rfl; have hfz14_0 := blk_frozen BK1008.out 0; have hfz14_1 := blk_frozen BK1008.out 1; have hfz14_2 := blk_frozen BK1008.out 2) | ((with_reducible refine gate_callee (f := 83) rfl ?_); refine goesA_ (some 16) rfl rfl Try.func83 (by kernel_rfl) rfl #[.agg #[.int .i64 a0_0, .int .i64 a0_1, .slice A0_2 l0_2.length c0_2], .slice A1 l1.length c1] rfl ?_; (with_reducible refine (spec_l09Shots.calls k a0_0 a0_1 _ _ l0_2 _ _ l1 t1009 _ ?side1 ?side2 ?side3 ?side4 A3.out).mono ?_); (case side1 => repeat (first | exact (Kd.C_below HR0_2.out HB.out) | (with_reducible refine Kd.C_alloc ?_ _) | (with_reducible refine Kd.C_drewN ?_ _) | (with_reducible refine Kd.C_drew ?_))); (case side2 => exact HC0_2.out); (case side3 => repeat (first | exact (Kd.C_below HR1.out HB.out) | (with_reducible refine Kd.C_alloc ?_ _) | (with_reducible refine Kd.C_drewN ?_ _) | (with_reducible refine Kd.C_drew ?_))); (case side4 => exact HC1.out); rintro e w15 ⟨rfl, hb⟩; refine ⟨_, rfl, ?_⟩; have n0_ := Aside0.mk (blk_below (g := gb1008) (o := .cells #[.int .i64 a0_0, .int .i64 a0_1, .slice A0_2 l0_2.length c0_2] 28 (0, 0)) (by (with_reducible repeat (first | refine blk_drewN ?_ _ | refine blk_drew ?_ | refine blk_alloc ?_ _)); exact BK1008.out) hb); have n1_ := Aside0.mk (below_step (by repeat (first | (with_reducible first | exact HB.out | apply below_alloc | apply pw_below_drewN | apply below_drew1 | refine below_set ?_ GE1008.out) | exact HB.out)) hb); clear BK1008; clear HB; have BK1008 := n0_; have HB := n1_; clear n0_ n1_; (try clear hb); (try clear hb2); (try clear hk); (try clear hi); have hcz16_0 : w15.cell? ⟨gb1008, 0, none⟩ = some (.int .i64 a0_0) := (blk_cell BK1008.out 0).trans rfl; have hcz16_1 : w15.cell? ⟨gb1008, 1, none⟩ = some (.int .i64 a0_1) := (blk_cell BK1008.out 1).trans rfl; have hcz16_2 : w15.cell? ⟨gb1008, 2, none⟩ = some (.slice A0_2 l0_2.length c0_2) := (blk_cell BK1008.out 2).trans rfl; have hfz16_0 := blk_frozen BK1008.out 0; have hfz16_1 := blk_frozen BK1008.out 1; have hfz16_2 := blk_frozen BK1008.out 2) | ((with_reducible refine gate_callee (f := 91) rfl ?_); refine goesA_ (some 23) rfl rfl Try.func91 (by kernel_rfl) rfl #[.agg #[.int .i64 a0_0, .int .i64 a0_1, .slice A0_2 l0_2.length c0_2], .slice A1 l1.length c1] rfl ?_; (with_reducible refine (spec_l09Shares.calls a0_0 a0_1 _ _ l0_2 _ _ l1 t1010 t1013 _ ?side1 ?side2 ?side3 ?side4 A5.out).mono ?_); (case side1 => repeat (first | exact (Kd.C_below HR0_2.out HB.out) | (with_reducible refine Kd.C_alloc ?_ _) | (with_reducible refine Kd.C_drewN ?_ _) | (with_reducible refine Kd.C_drew ?_))); (case side2 => exact HC0_2.out); (case side3 => repeat (first | exact (Kd.C_below HR1.out HB.out) | (with_reducible refine Kd.C_alloc ?_ _) | (with_reducible refine Kd.C_drewN ?_ _) | (with_reducible refine Kd.C_drew ?_))); (case side4 => exact HC1.out); rintro e w17 ⟨v1011, rfl, ho0, hb⟩; refine ⟨_, rfl, ?_⟩; have n0_ := Aside0.mk (Kd.R_lower ho0 (below_size (by repeat (first | (with_reducible first | exact HB.out | apply below_alloc | apply pw_below_drewN | apply below_drew1 | refine below_set ?_ GE1008.out) | exact HB.out)))); have n1_ := Aside0.mk (blk_below (g := gb1008) (o := .cells #[.int .i64 a0_0, .int .i64 a0_1, .slice A0_2 l0_2.length c0_2] 28 (0, 0)) (by (with_reducible repeat (first | refine blk_drewN ?_ _ | refine blk_drew ?_ | refine blk_alloc ?_ _)); exact BK1008.out) hb); have n2_ := Aside0.mk (below_step (by repeat (first | (with_reducible first | exact HB.out | apply below_alloc | apply pw_below_drewN | apply below_drew1 | refine below_set ?_ GE1008.out) | exact HB.out)) hb); clear BK1008; clear HB; have HO1012 := n0_; have BK1008 := n1_; have HB := n2_; clear n0_ n1_ n2_; (try clear hb); (try clear hb2); (try clear hk); (try clear hi); (try clear ho0); have hcz18_0 : w17.cell? ⟨gb1008, 0, none⟩ = some (.int .i64 a0_0) := (blk_cell BK1008.out 0).trans rfl; have hcz18_1 : w17.cell? ⟨gb1008, 1, none⟩ = some (.int .i64 a0_1) := (blk_cell BK1008.out 1).trans rfl; have hcz18_2 : w17.cell? ⟨gb1008, 2, none⟩ = some (.slice A0_2 l0_2.length c0_2) := (blk_cell BK1008.out 2).trans rfl; have hfz18_0 := blk_frozen BK1008.out 0; have hfz18_1 := blk_frozen BK1008.out 1; have hfz18_2 := blk_frozen BK1008.out 2) | ((with_reducible refine gate_callee (f := 94) rfl ?_); refine goesA_ (some 30) rfl rfl Try.func94 (by kernel_rfl) rfl #[.agg #[.int .i64 a0_0, .int .i64 a0_1, .slice A0_2 l0_2.length c0_2], .slice A1 l1.length c1] rfl ?_; (with_reducible refine (spec_l09Open.calls a0_0 a0_1 _ _ l0_2 _ _ l1 t1014 _ ?side1 ?side2 ?side3 ?side4 A12.out).mono ?_); (case side1 => repeat (first | exact (Kd.C_below HR0_2.out HB.out) | (with_reducible refine Kd.C_alloc ?_ _) | (with_reducible refine Kd.C_drewN ?_ _) | (with_reducible refine Kd.C_drew ?_))); (case side2 => exact HC0_2.out); (case side3 => repeat (first | exact (Kd.C_below HR1.out HB.out) | (with_reducible refine Kd.C_alloc ?_ _) | (with_reducible refine Kd.C_drewN ?_ _) | (with_reducible refine Kd.C_drew ?_))); (case side4 => exact HC1.out); rintro e w19 ⟨v1015, rfl, ho0, hb⟩; refine ⟨_, rfl, ?_⟩; have n0_ := Aside0.mk (Kd.R_below (by (with_reducible repeat (first | apply Kd.R_alloc | apply Kd.R_drewN | apply Kd.R_drew)); exact HO1012.out) hb); have n1_ := Aside0.mk (Kd.R_lower ho0 (below_size (by repeat (first | (with_reducible first | exact HB.out | apply below_alloc | apply pw_below_drewN | apply below_drew1 | refine below_set ?_ GE1008.out) | exact HB.out)))); have n2_ := Aside0.mk (blk_below (g := gb1008) (o := .cells #[.int .i64 a0_0, .int .i64 a0_1, .slice A0_2 l0_2.length c0_2] 28 (0, 0)) (by (with_reducible repeat (first | refine blk_drewN ?_ _ | refine blk_drew ?_ | refine blk_alloc ?_ _)); exact BK1008.out) hb); have n3_ := Aside0.mk (below_step (by repeat (first | (with_reducible first | exact HB.out | apply below_alloc | apply pw_below_drewN | apply below_drew1 | refine below_set ?_ GE1008.out) | exact HB.out)) hb); clear HO1012; clear BK1008; clear HB; have HO1012 := n0_; have HO1016 := n1_; have BK1008 := n2_; have HB := n3_; clear n0_ n1_ n2_ n3_; (try clear hb); (try clear hb2); (try clear hk); (try clear hi); (try clear ho0)) | ((with_reducible refine gate_dst (N := 31) rfl ?_); refine Kd.R_lit (Kd.int .i64) _ 2 ?hg (N := 31) ?hd (xs := ([] : List Int)) (inner := []) (ok := fun _ => True) (okp := fun _ => True) ?hr ?hp (fun _ hk => hk) trivial (Below.refl _ _) (Nat.le_refl _) (by simp) ?_; (case hd => rfl); (case hg => rfl); (case hr => first | (go_simp; done) | (go_simp; rfl)); (case hp => exact (Reps.none _ _)); intro v1018 w20 ho21 hb hg_ hnew_; clear hg_ hnew_; (first | rw [← Ny1017.out] at ho21 | (simp only [Int.reduceToNat] at ho21; rw [← Ny1017.out] at ho21)); have n0_ := Aside0.mk (Kd.R_elder' (by (with_reducible repeat (first | apply Kd.R_alloc | apply Kd.R_drewN | apply Kd.R_drew)); exact HO1012.out) (Kd.R_base ho21) hb); have n1_ := Aside0.mk (Kd.R_below (by (with_reducible repeat (first | apply Kd.R_alloc | apply Kd.R_drewN | apply Kd.R_drew)); exact HO1016.out) hb); have n2_ := Aside0.mk (Kd.R_lower (Kd.R_new' ho21 (Kd.R_lt (by (with_reducible repeat (first | apply Kd.R_alloc | apply Kd.R_drewN | apply Kd.R_drew)); exact HO1012.out))) (below_size (by repeat (first | (with_reducible first | exact HB.out | apply below_alloc | apply pw_below_drewN | apply below_drew1 | refine below_set ?_ GE1008.out) | exact HB.out)))); have n3_ := Aside0.mk (blk_below (g := gb1008) (o := .cells #[.int .i64 a0_0, .int .i64 a0_1, .slice A0_2 l0_2.length c0_2] 28 (0, 0)) (by (with_reducible repeat (first | refine blk_drewN ?_ _ | refine blk_drew ?_ | refine blk_alloc ?_ _)); exact BK1008.out) hb); have n4_ := Aside0.mk (below_step (by repeat (first | (with_reducible first | exact HB.out | apply below_alloc | apply pw_below_drewN | apply below_drew1 | refine below_set ?_ GE1008.out) | exact HB.out)) hb); clear HO1012; clear HO1016; clear BK1008; clear HB; have HO1012 := n0_; have HO1016 := n1_; have HO1019 := n2_; have BK1008 := n3_; have HB := n4_; clear n0_ n1_ n2_ n3_ n4_; clear hb ho21) | ((with_reducible refine gate_dst (N := 32) rfl ?_); refine Kd.R_lit (Kd.int .i64) _ 2 ?hg (N := 32) ?hd (xs := ([] : List Int)) (inner := []) (ok := fun _ => True) (okp := fun _ => True) ?hr ?hp (fun _ hk => hk) trivial (Below.refl _ _) (Nat.le_refl _) (by simp) ?_; (case hd => rfl); (case hg => rfl); (case hr => first | (go_simp; done) | (go_simp; rfl)); (case hp => exact (Reps.none _ _)); intro v1021 w22 ho23 hb hg_ hnew_; clear hg_ hnew_; (first | rw [← Ny1020.out] at ho23 | (simp only [Int.reduceToNat] at ho23; rw [← Ny1020.out] at ho23)); have n0_ := Aside0.mk (Kd.R_elder' (by (with_reducible repeat (first | apply Kd.R_alloc | apply Kd.R_drewN | apply Kd.R_drew)); exact HO1012.out) (Kd.R_base ho23) hb); have n1_ := Aside0.mk (Kd.R_below (by (with_reducible repeat (first | apply Kd.R_alloc | apply Kd.R_drewN | apply Kd.R_drew)); exact HO1016.out) hb); have n2_ := Aside0.mk (Kd.R_elder' (by (with_reducible repeat (first | apply Kd.R_alloc | apply Kd.R_drewN | apply Kd.R_drew)); exact HO1019.out) (Kd.R_base ho23) hb); have n3_ := Aside0.mk (Kd.R_lower (Kd.R_new' (Kd.R_new' ho23 (Kd.R_lt (by (with_reducible repeat (first | apply Kd.R_alloc | apply Kd.R_drewN | apply Kd.R_drew)); exact HO1012.out))) (Kd.R_lt (by (with_reducible repeat (first | apply Kd.R_alloc | apply Kd.R_drewN | apply Kd.R_drew)); exact HO1019.out))) (below_size (by repeat (first | (with_reducible first | exact HB.out | apply below_alloc | apply pw_below_drewN | apply below_drew1 | refine below_set ?_ GE1008.out) | exact HB.out)))); have n4_ := Aside0.mk (blk_below (g := gb1008) (o := .cells #[.int .i64 a0_0, .int .i64 a0_1, .slice A0_2 l0_2.length c0_2] 28 (0, 0)) (by (with_reducible repeat (first | refine blk_drewN ?_ _ | refine blk_drew ?_ | refine blk_alloc ?_ _)); exact BK1008.out) hb); have n5_ := Aside0.mk (below_step (by repeat (first | (with_reducible first | exact HB.out | apply below_alloc | apply pw_below_drewN | apply below_drew1 | refine below_set ?_ GE1008.out) | exact HB.out)) hb); clear HO1012; clear HO1016; clear HO1019; clear BK1008; clear HB; have HO1012 := n0_; have HO1016 := n1_; have HO1019 := n2_; have HO1022 := n3_; have BK1008 := n4_; have HB := n5_; clear n0_ n1_ n2_ n3_ n4_ n5_; clear hb ho23))
   go_loopg [11, 12, 13] k (fun kq v11 v12 v13 w' => ∃ (x11_1 : List Int) (x12_1 : List Int) (x13_1 : Int), v13 = .int .i64 x13_1 ∧ Aside0 (spec_CertainCells.l0 kq t1010 t1013 t1014 x11_1 x12_1 x13_1 = some (r1, r2, r3)) ∧ Aside0 (kq ≤ k) ∧ Aside0 (Kd.R (Kd.int .i64) 2 w' w.heap.size (fun k_ => some k_ ≠ (v11 : Value).ownBlock ∧ some k_ ≠ (v12 : Value).ownBlock) v1011 t1010) ∧ Aside0 (Kd.R Kd.bool 4 w' w.heap.size (fun _ => True) v1015 t1014) ∧ Aside0 (Kd.R (Kd.int .i64) 2 w' w.heap.size (fun k_ => some k_ ≠ (v1011 : Value).ownBlock ∧ some k_ ≠ (v12 : Value).ownBlock) v11 x11_1) ∧ Aside0 (Kd.R (Kd.int .i64) 2 w' w.heap.size (fun k_ => some k_ ≠ (v1011 : Value).ownBlock ∧ some k_ ≠ (v11 : Value).ownBlock) v12 x12_1) ∧ Aside0 (w'.heap[gb1008]? = some (.cells #[.int .i64 a0_0, .int .i64 a0_1, (.slice A0_2 l0_2.length c0_2)] 28 (0, 0))) ∧ Aside0 (Below w.heap.size w w'))
   case atStart => exact ⟨(y1017), (y1020), (0), (by first | rfl | (simp; done) | (simp [*]; done)), H', ⟨Nat.le_refl _⟩, ⟨by (with_reducible repeat (first | apply Kd.R_alloc | apply Kd.R_drewN | apply Kd.R_drew)); exact Kd.R_mono HO1012.out (fun _ hk => ⟨hk.1.2, hk.2⟩)⟩, ⟨by (with_reducible repeat (first | apply Kd.R_alloc | apply Kd.R_drewN | apply Kd.R_drew)); exact HO1016.out⟩, ⟨by (with_reducible repeat (first | apply Kd.R_alloc | apply Kd.R_drewN | apply Kd.R_drew)); exact Kd.R_mono HO1019.out (fun _ hk => ⟨hk.1.2, hk.2⟩)⟩, ⟨by (with_reducible repeat (first | apply Kd.R_alloc | apply Kd.R_drewN | apply Kd.R_drew)); exact Kd.R_mono HO1022.out (fun _ hk => ⟨hk.1.2, hk.2⟩)⟩, ⟨by (with_reducible repeat (first | refine blk_drewN ?_ _ | refine blk_drew ?_ | refine blk_alloc ?_ _)); exact BK1008.out⟩, ⟨by repeat (first | (with_reducible first | exact HB.out | apply below_alloc | apply pw_below_drewN | apply below_drew1 | refine below_set ?_ GE1008.out) | exact HB.out)⟩⟩
   case round =>
    clear H'
    (try clear c1); (try clear p2); (try clear c4); (try clear c4b0); (try clear c4b1); (try clear c5); (try clear c6); (try clear c6b0); (try clear c6b1); (try clear c8); (try clear c9); (try clear hcz10_0); (try clear hcz10_1); (try clear hcz10_2); (try clear hcz14_0); (try clear hcz14_1); (try clear hcz14_2); (try clear hcz16_0); (try clear hcz16_1); (try clear hcz16_2); (try clear hcz18_0); (try clear hcz18_1); (try clear hcz18_2); (try clear hcz8_0); (try clear hcz8_1); (try clear hcz8_2); (try clear hfz10_0); (try clear hfz10_1); (try clear hfz10_2); (try clear hfz14_0); (try clear hfz14_1); (try clear hfz14_2); (try clear hfz16_0); (try clear hfz16_1); (try clear hfz16_2); (try clear hfz18_0); (try clear hfz18_1); (try clear hfz18_2); (try clear hfz8_0); (try clear hfz8_1); (try clear hfz8_2)
    obtain ⟨x11_1, x12_1, x13_1, rfl, HA, HK1, HO_8, HO_10, HO_11, HO_12, BK1008, HB⟩ := hrel
    cases gk with
    | zero => exact absurd HA.out (by simp [spec_CertainCells.l0])
    | succ k1 =>
     have H := HA.out
     clear HA
     simp only [spec_CertainCells.l0] at H
     by_cases c24 : x13_1 < (t1014.length : Int)
     ·rw [if_pos c24] at H
      have c24b0 : decide (x13_1 < (t1014.length : Int)) = true := decide_eq_true c24
      clear c24
      have HC25 := Aside0.mk H
      clear H
      obtain ⟨Ao26, co26, eo26⟩ := Kd.R_slice HO_10.out
      subst eo26
      go_upto_region 11 with (fail)
      go_cut [39] (fun v39 wc => ∃ (kq : Nat) (x39_24 : Bool), v39 = .bool x39_24 ∧ Aside0 (spec_CertainCells.j1 kq t1010 t1013 t1014 x11_1 x12_1 x13_1 x39_24 = some (r1, r2, r3)) ∧ Aside0 (kq ≤ k1) ∧ Aside0 (Kd.R (Kd.int .i64) 2 wc w.heap.size (fun k_ => some k_ ≠ (u11 : Value).ownBlock ∧ some k_ ≠ (u12 : Value).ownBlock) v1011 t1010) ∧ Aside0 (Kd.R Kd.bool 4 wc w.heap.size (fun _ => True) (.slice Ao26 t1014.length co26) t1014) ∧ Aside0 (Kd.R (Kd.int .i64) 2 wc w.heap.size (fun k_ => some k_ ≠ (v1011 : Value).ownBlock ∧ some k_ ≠ (u12 : Value).ownBlock) u11 x11_1) ∧ Aside0 (Kd.R (Kd.int .i64) 2 wc w.heap.size (fun k_ => some k_ ≠ (v1011 : Value).ownBlock ∧ some k_ ≠ (u11 : Value).ownBlock) u12 x12_1) ∧ Aside0 (wc.heap[gb1008]? = some (.cells #[.int .i64 a0_0, .int .i64 a0_1, (.slice A0_2 l0_2.length c0_2)] 28 (0, 0))) ∧ Aside0 (Below w.heap.size w wc))
      case first =>
       have H := HC25.out
       clear HC25
       by_cases c27 : 0 ≤ x13_1
       ·rw [if_pos c27] at H
        have c27b0 : decide (0 ≤ x13_1) = true := decide_eq_true c27
        clear c27
        (first | rw [c27b0] | (simp only [i64_w, i32_w]; rw [c27b0]) | skip)
        obtain ⟨bq28, hbq28⟩ : ∃ b_ : Bool, b_ = (rdOf false t1014 x13_1) := ⟨_, rfl⟩
        replace H : (if bq28 = true then (if x13_1 < (t1010.length : Int) then (spec_CertainCells.j1 k1 t1010 t1013 t1014 x11_1 x12_1 x13_1 ((rd t1010 x13_1) == t1013)) else (none)) else (spec_CertainCells.j1 k1 t1010 t1013 t1014 x11_1 x12_1 x13_1 false)) = some (r1, r2, r3) := by rw [← hbq28] at H; exact H
        have Nbq28 := Aside0.mk hbq28
        clear hbq28
        by_cases c29 : bq28 = true
        ·subst c29
         have H1 : (if x13_1 < (t1010.length : Int) then (spec_CertainCells.j1 k1 t1010 t1013 t1014 x11_1 x12_1 x13_1 ((rd t1010 x13_1) == t1013)) else (none)) = some (r1, r2, r3) := by rw [if_pos rfl] at H; exact H
         clear H
         have H := H1
         clear H1
         by_cases c30 : x13_1 < (t1010.length : Int)
         ·rw [if_pos c30] at H
          have c30b0 : decide (x13_1 < (t1010.length : Int)) = true := decide_eq_true c30
          clear c30
          have H' := Aside0.mk H
          clear H
          have p1023 : 0 ≤ (x13_1 : Int) := oda
          have q1023 : x13_1 < (t1014.length : Int) := oda
          obtain ⟨ad1023, e1023, hx1023_0⟩ := Kd.at_bool (Kd.R_reads' HO_10.out).2.2 x13_1 p1023 q1023
          (try rw [← Nbq28.out] at hx1023_0)
          cases e1023
          replace p1023 := eq_true p1023
          replace q1023 := eq_true q1023
          obtain ⟨Ao31, co31, eo31⟩ := Kd.R_slice HO_8.out
          subst eo31
          have p1024 : 0 ≤ (x13_1 : Int) := oda
          have q1024 : x13_1 < (t1010.length : Int) := oda
          obtain ⟨ad1024, e1024, hx1024_0⟩ := Kd.at_int (Kd.R_reads' HO_8.out).2.2 x13_1 p1024 q1024
          cases e1024
          replace p1024 := eq_true p1024
          replace q1024 := eq_true q1024
          go_wp2
          go_meet
          case rel => exact ⟨_, (((rd t1010 x13_1) == t1013)), (by first | rfl | (simp; done) | (simp [*]; done)), H', ⟨by have := HK1.out; first | omega | exact Nat.le_refl _⟩, ⟨by (with_reducible repeat (first | apply Kd.R_alloc | apply Kd.R_drewN | apply Kd.R_drew)); exact HO_8.out⟩, ⟨by (with_reducible repeat (first | apply Kd.R_alloc | apply Kd.R_drewN | apply Kd.R_drew)); exact HO_10.out⟩, ⟨by (with_reducible repeat (first | apply Kd.R_alloc | apply Kd.R_drewN | apply Kd.R_drew)); exact HO_11.out⟩, ⟨by (with_reducible repeat (first | apply Kd.R_alloc | apply Kd.R_drewN | apply Kd.R_drew)); exact HO_12.out⟩, ⟨by (with_reducible repeat (first | refine blk_drewN ?_ _ | refine blk_drew ?_ | refine blk_alloc ?_ _)); exact BK1008.out⟩, ⟨by repeat (first | (with_reducible first | exact HB.out | apply below_alloc | apply pw_below_drewN | apply below_drew1 | refine below_set ?_ GE1008.out) | exact HB.out)⟩⟩
         ·rw [if_neg c30] at H
          exact absurd H (by simp)
        ·replace c29 := Bool.eq_false_iff.mpr c29
         subst c29
         have H1 : (spec_CertainCells.j1 k1 t1010 t1013 t1014 x11_1 x12_1 x13_1 false) = some (r1, r2, r3) := by rw [if_neg (show ¬ (false = true) by decide)] at H; exact H
         clear H
         have H := H1
         clear H1
         have H' := Aside0.mk H
         clear H
         have p1023 : 0 ≤ (x13_1 : Int) := oda
         have q1023 : x13_1 < (t1014.length : Int) := oda
         obtain ⟨ad1023, e1023, hx1023_0⟩ := Kd.at_bool (Kd.R_reads' HO_10.out).2.2 x13_1 p1023 q1023
         (try rw [← Nbq28.out] at hx1023_0)
         cases e1023
         replace p1023 := eq_true p1023
         replace q1023 := eq_true q1023
         go_wp2
         go_meet
         case rel => exact ⟨_, (false), (by first | rfl | (simp; done) | (simp [*]; done)), H', ⟨by have := HK1.out; first | omega | exact Nat.le_refl _⟩, ⟨by (with_reducible repeat (first | apply Kd.R_alloc | apply Kd.R_drewN | apply Kd.R_drew)); exact HO_8.out⟩, ⟨by (with_reducible repeat (first | apply Kd.R_alloc | apply Kd.R_drewN | apply Kd.R_drew)); exact HO_10.out⟩, ⟨by (with_reducible repeat (first | apply Kd.R_alloc | apply Kd.R_drewN | apply Kd.R_drew)); exact HO_11.out⟩, ⟨by (with_reducible repeat (first | apply Kd.R_alloc | apply Kd.R_drewN | apply Kd.R_drew)); exact HO_12.out⟩, ⟨by (with_reducible repeat (first | refine blk_drewN ?_ _ | refine blk_drew ?_ | refine blk_alloc ?_ _)); exact BK1008.out⟩, ⟨by repeat (first | (with_reducible first | exact HB.out | apply below_alloc | apply pw_below_drewN | apply below_drew1 | refine below_set ?_ GE1008.out) | exact HB.out)⟩⟩
       ·rw [if_neg c27] at H
        exact absurd H (by simp)
      case rest =>
       clear HC25
       (try clear c1); (try clear p1); (try clear q1); (try clear hx1); (try clear c2); (try clear p2); (try clear q2); (try clear c3); (try clear c4); (try clear c4b0); (try clear c4b1); (try clear c5); (try clear c6); (try clear c6b0); (try clear c6b1); (try clear c8); (try clear c9); (try clear p10); (try clear q10); (try clear hx10); (try clear c24); (try clear c24b0); (try clear c27); (try clear c27b0); (try clear q28); (try clear c29); (try clear c30); (try clear c30b0); (try clear hcz10_0); (try clear hcz10_1); (try clear hcz10_2); (try clear hcz14_0); (try clear hcz14_1); (try clear hcz14_2); (try clear hcz16_0); (try clear hcz16_1); (try clear hcz16_2); (try clear hcz18_0); (try clear hcz18_1); (try clear hcz18_2); (try clear hcz8_0); (try clear hcz8_1); (try clear hcz8_2); (try clear hfz10_0); (try clear hfz10_1); (try clear hfz10_2); (try clear hfz14_0); (try clear hfz14_1); (try clear hfz14_2); (try clear hfz16_0); (try clear hfz16_1); (try clear hfz16_2); (try clear hfz18_0); (try clear hfz18_1); (try clear hfz18_2); (try clear hfz8_0); (try clear hfz8_1); (try clear hfz8_2); (try clear hx1023_0); (try clear hx1024_0); (try clear p1023); (try clear p1024); (try clear p2); (try clear q1023); (try clear q1024)
       obtain ⟨kq, x39_24, rfl, HA, HJ24, HO_8, HO_10, HO_11, HO_12, BK1008, HB⟩ := hcut
       cases kq with
       | zero => exact absurd HA.out (by simp [spec_CertainCells.j1])
       | succ kj24 =>
        have H := HA.out
        clear HA
        simp only [spec_CertainCells.j1] at H
        by_cases c32 : x39_24 = true
        ·subst c32
         have H1 : (if x11_1.length < 17592186044416 then (spec_CertainCells.l0 kj24 t1010 t1013 t1014 (x11_1 ++ [x13_1]) x12_1 (wrap64 (x13_1 + 1))) else (none)) = some (r1, r2, r3) := by rw [if_pos rfl] at H; exact H
         clear H
         have H := H1
         clear H1
         by_cases c33 : x11_1.length < 17592186044416
         ·rw [if_pos c33] at H
          have LMc33 := Aside0.mk c33
          clear c33
          obtain ⟨y1025, hy1025⟩ : ∃ y_ : List Int, y_ = (x11_1 ++ [x13_1]) := ⟨_, rfl⟩
          replace H : (spec_CertainCells.l0 kj24 t1010 t1013 t1014 y1025 x12_1 (wrap64 (x13_1 + 1))) = some (r1, r2, r3) := by first | (rw [hy1025]; with_reducible exact H) | (have H2_ := (Option.bind_some _ _).symm.trans H; rw [hy1025]; with_reducible exact H2_) | (have H2_ := (Option.bind_some _ _).symm.trans H; with_reducible exact H2_) | with_reducible exact H | (rw [hy1025]; exact H) | exact H
          have Ny1025 := Aside0.mk hy1025
          clear hy1025
          have H' := Aside0.mk H
          clear H
          go_wp2_with (first | ((with_reducible refine gate_builtin (b := .append) (xs := #[.tmp 52, .tmp 54]) rfl ?_); at_builtin; refine Kd.R_append (Kd.int .i64) (w0 := w) w.heap.size rfl (.tmp 52) (.tmp 54) 22 2 (.int .i64 0) 8 rfl Try.underlying22 info2 rfl (by decide) (by omega) u11 x11_1 x13_1 [.int .i64 x13_1] (fun k_ => some k_ ≠ (v1011 : Value).ownBlock ∧ some k_ ≠ (u12 : Value).ownBlock) (fun _ => False) rfl rfl ?aP (fun _ hk => hk.elim) ?aF ?aO ?aB ?aS ?aL ?_; (case aP => exact rfl); (case aB => exact (by repeat (first | (with_reducible first | exact HB.out | apply below_alloc | apply pw_below_drewN | apply below_drew1 | refine below_set ?_ GE1008.out) | exact HB.out))); (case aF => exact (fun k_ hk => ⟨Kd.fresh' (Kd.R_lt (by (with_reducible repeat (first | apply Kd.R_alloc | apply Kd.R_drewN | apply Kd.R_drew)); exact HO_8.out)) k_ hk, Kd.fresh' (Kd.R_lt (by (with_reducible repeat (first | apply Kd.R_alloc | apply Kd.R_drewN | apply Kd.R_drew)); exact HO_12.out)) k_ hk⟩)); (case aO => exact (by (with_reducible repeat (first | apply Kd.R_alloc | apply Kd.R_drewN | apply Kd.R_drew)); exact HO_11.out)); (case aS => exact (below_size (by repeat (first | (with_reducible first | exact HB.out | apply below_alloc | apply pw_below_drewN | apply below_drew1 | refine below_set ?_ GE1008.out) | exact HB.out)))); (case aL => have := LMc33.out; omega); intro v1026 w34 ho hb hg hat; rw [← Ny1025.out] at ho; have n0_ := Aside0.mk (Kd.R_after (ok := (fun k_ => some k_ ≠ (u12 : Value).ownBlock)) (by (with_reducible repeat (first | apply Kd.R_alloc | apply Kd.R_drewN | apply Kd.R_drew)); exact Kd.R_mono HO_8.out (fun _ hk => ⟨hk.2, hk.1⟩)) hg hat); have n1_ := Aside0.mk (Kd.R_over' (by (with_reducible repeat (first | apply Kd.R_alloc | apply Kd.R_drewN | apply Kd.R_drew)); exact HO_10.out) (Kd.R_typed (by (with_reducible repeat (first | apply Kd.R_alloc | apply Kd.R_drewN | apply Kd.R_drew)); exact HO_11.out)) (by decide) hg); have n2_ := Aside0.mk (Kd.R_after (ok := (fun k_ => some k_ ≠ (v1011 : Value).ownBlock)) (by (with_reducible repeat (first | apply Kd.R_alloc | apply Kd.R_drewN | apply Kd.R_drew)); exact HO_12.out) hg hat); have n3_ := Aside0.mk (blk_grown (g := gb1008) (o := .cells #[.int .i64 a0_0, .int .i64 a0_1, .slice A0_2 l0_2.length c0_2] 28 (0, 0)) (by (with_reducible repeat (first | refine blk_drewN ?_ _ | refine blk_drew ?_ | refine blk_alloc ?_ _)); exact BK1008.out) hg (Kd.R_ne HO_11.out BK1008.out (by decide))); have n4_ := Aside0.mk (hb); have n5_ := Aside0.mk (ho); clear HO_8; clear HO_10; clear HO_12; clear BK1008; clear HB; clear HO_11; have HO_8 := n0_; have HO_10 := n1_; have HO_12 := n2_; have BK1008 := n3_; have HB := n4_; have HO1027 := n5_; clear n0_ n1_ n2_ n3_ n4_ n5_; clear ho hb hg hat))
          go_roundg kj24
          case measure => have := HK1.out; have := HJ24.out; omega
          case rel => exact ⟨(y1025), (x12_1), (wrap64 (x13_1 + 1)), (by first | rfl | (simp; done) | (simp [*]; done)), H', ⟨by have := HK1.out; have := HJ24.out; omega⟩, ⟨by (with_reducible repeat (first | apply Kd.R_alloc | apply Kd.R_drewN | apply Kd.R_drew)); exact Kd.R_mono HO_8.out (fun _ hk => ⟨hk.2, hk.1⟩)⟩, ⟨by (with_reducible repeat (first | apply Kd.R_alloc | apply Kd.R_drewN | apply Kd.R_drew)); exact HO_10.out⟩, ⟨by (with_reducible repeat (first | apply Kd.R_alloc | apply Kd.R_drewN | apply Kd.R_drew)); exact HO1027.out⟩, ⟨by (with_reducible repeat (first | apply Kd.R_alloc | apply Kd.R_drewN | apply Kd.R_drew)); exact HO_12.out⟩, ⟨by (with_reducible repeat (first | refine blk_drewN ?_ _ | refine blk_drew ?_ | refine blk_alloc ?_ _)); exact BK1008.out⟩, ⟨by repeat (first | (with_reducible first | exact HB.out | apply below_alloc | apply pw_below_drewN | apply below_drew1 | refine below_set ?_ GE1008.out) | exact HB.out)⟩⟩
         ·rw [if_neg c33] at H
          exact absurd H (by simp)
        ·replace c32 := Bool.eq_false_iff.mpr c32
         subst c32
         have H1 : (if 0 ≤ x13_1 then (if x13_1 < (t1014.length : Int) then (if rdOf false t1014 x13_1 = true then (if x13_1 < (t1010.length : Int) then (if (rd t1010 x13_1) = 0 then (if x12_1.length < 17592186044416 then (spec_CertainCells.l0 kj24 t1010 t1013 t1014 x11_1 (x12_1 ++ [x13_1]) (wrap64 (x13_1 + 1))) else (none)) else (spec_CertainCells.l0 kj24 t1010 t1013 t1014 x11_1 x12_1 (wrap64 (x13_1 + 1)))) else (none)) else (spec_CertainCells.l0 kj24 t1010 t1013 t1014 x11_1 x12_1 (wrap64 (x13_1 + 1)))) else (none)) else (none)) = some (r1, r2, r3) := by rw [if_neg (show ¬ (false = true) by decide)] at H; exact H
         clear H
         have H := H1
         clear H1
         by_cases c35 : 0 ≤ x13_1
         ·rw [if_pos c35] at H
          have c35b0 : decide (0 ≤ x13_1) = true := decide_eq_true c35
          clear c35
          by_cases c36 : x13_1 < (t1014.length : Int)
          ·rw [if_pos c36] at H
           have c36b0 : decide (x13_1 < (t1014.length : Int)) = true := decide_eq_true c36
           clear c36
           obtain ⟨bq37, hbq37⟩ : ∃ b_ : Bool, b_ = (rdOf false t1014 x13_1) := ⟨_, rfl⟩
           replace H : (if bq37 = true then (if x13_1 < (t1010.length : Int) then (if (rd t1010 x13_1) = 0 then (if x12_1.length < 17592186044416 then (spec_CertainCells.l0 kj24 t1010 t1013 t1014 x11_1 (x12_1 ++ [x13_1]) (wrap64 (x13_1 + 1))) else (none)) else (spec_CertainCells.l0 kj24 t1010 t1013 t1014 x11_1 x12_1 (wrap64 (x13_1 + 1)))) else (none)) else (spec_CertainCells.l0 kj24 t1010 t1013 t1014 x11_1 x12_1 (wrap64 (x13_1 + 1)))) = some (r1, r2, r3) := by rw [← hbq37] at H; exact H
           have Nbq37 := Aside0.mk hbq37
           clear hbq37
           by_cases c38 : bq37 = true
           ·subst c38
            have H1 : (if x13_1 < (t1010.length : Int) then (if (rd t1010 x13_1) = 0 then (if x12_1.length < 17592186044416 then (spec_CertainCells.l0 kj24 t1010 t1013 t1014 x11_1 (x12_1 ++ [x13_1]) (wrap64 (x13_1 + 1))) else (none)) else (spec_CertainCells.l0 kj24 t1010 t1013 t1014 x11_1 x12_1 (wrap64 (x13_1 + 1)))) else (none)) = some (r1, r2, r3) := by rw [if_pos rfl] at H; exact H
            clear H
            have H := H1
            clear H1
            by_cases c39 : x13_1 < (t1010.length : Int)
            ·rw [if_pos c39] at H
             have c39b0 : decide (x13_1 < (t1010.length : Int)) = true := decide_eq_true c39
             clear c39
             by_cases c40 : (rd t1010 x13_1) = 0
             ·rw [if_pos c40] at H
              have c40b0 : ((rd t1010 x13_1) == 0) = true := beq_iff_eq.mpr c40
              have c40b1 : ((rd t1010 x13_1) != 0) = false := bne_eq_false_iff_eq.mpr c40
              clear c40
              by_cases c41 : x12_1.length < 17592186044416
              ·rw [if_pos c41] at H
               have LMc41 := Aside0.mk c41
               clear c41
               obtain ⟨y1030, hy1030⟩ : ∃ y_ : List Int, y_ = (x12_1 ++ [x13_1]) := ⟨_, rfl⟩
               replace H : (spec_CertainCells.l0 kj24 t1010 t1013 t1014 x11_1 y1030 (wrap64 (x13_1 + 1))) = some (r1, r2, r3) := by first | (rw [hy1030]; with_reducible exact H) | (have H2_ := (Option.bind_some _ _).symm.trans H; rw [hy1030]; with_reducible exact H2_) | (have H2_ := (Option.bind_some _ _).symm.trans H; with_reducible exact H2_) | with_reducible exact H | (rw [hy1030]; exact H) | exact H
               have Ny1030 := Aside0.mk hy1030
               clear hy1030
               have H' := Aside0.mk H
               clear H
               have p1028 : 0 ≤ (x13_1 : Int) := oda
               have q1028 : x13_1 < (t1014.length : Int) := oda
               obtain ⟨ad1028, e1028, hx1028_0⟩ := Kd.at_bool (Kd.R_reads' HO_10.out).2.2 x13_1 p1028 q1028
               (try rw [← Nbq37.out] at hx1028_0)
               cases e1028
               replace p1028 := eq_true p1028
               replace q1028 := eq_true q1028
               obtain ⟨Ao42, co42, eo42⟩ := Kd.R_slice HO_8.out
               subst eo42
               have p1029 : 0 ≤ (x13_1 : Int) := oda
               have q1029 : x13_1 < (t1010.length : Int) := oda
               obtain ⟨ad1029, e1029, hx1029_0⟩ := Kd.at_int (Kd.R_reads' HO_8.out).2.2 x13_1 p1029 q1029
               cases e1029
               replace p1029 := eq_true p1029
               replace q1029 := eq_true q1029
               go_wp2_with (first | ((with_reducible refine gate_builtin (b := .append) (xs := #[.tmp 68, .tmp 70]) rfl ?_); at_builtin; refine Kd.R_append (Kd.int .i64) (w0 := w) w.heap.size rfl (.tmp 68) (.tmp 70) 22 2 (.int .i64 0) 8 rfl Try.underlying22 info2 rfl (by decide) (by omega) u12 x12_1 x13_1 [.int .i64 x13_1] (fun k_ => some k_ ≠ (.slice (some ad1029) t1010.length co42 : Value).ownBlock ∧ some k_ ≠ (u11 : Value).ownBlock) (fun _ => False) rfl rfl ?aP (fun _ hk => hk.elim) ?aF ?aO ?aB ?aS ?aL ?_; (case aP => exact rfl); (case aB => exact (by repeat (first | (with_reducible first | exact HB.out | apply below_alloc | apply pw_below_drewN | apply below_drew1 | refine below_set ?_ GE1008.out) | exact HB.out))); (case aF => exact (fun k_ hk => ⟨Kd.fresh' (Kd.R_lt (by (with_reducible repeat (first | apply Kd.R_alloc | apply Kd.R_drewN | apply Kd.R_drew)); exact HO_8.out)) k_ hk, Kd.fresh' (Kd.R_lt (by (with_reducible repeat (first | apply Kd.R_alloc | apply Kd.R_drewN | apply Kd.R_drew)); exact HO_11.out)) k_ hk⟩)); (case aO => exact (by (with_reducible repeat (first | apply Kd.R_alloc | apply Kd.R_drewN | apply Kd.R_drew)); exact HO_12.out)); (case aS => exact (below_size (by repeat (first | (with_reducible first | exact HB.out | apply below_alloc | apply pw_below_drewN | apply below_drew1 | refine below_set ?_ GE1008.out) | exact HB.out)))); (case aL => have := LMc41.out; omega); intro v1031 w43 ho hb hg hat; rw [← Ny1030.out] at ho; have n0_ := Aside0.mk (Kd.R_after (ok := (fun k_ => some k_ ≠ (u11 : Value).ownBlock)) (by (with_reducible repeat (first | apply Kd.R_alloc | apply Kd.R_drewN | apply Kd.R_drew)); exact HO_8.out) hg hat); have n1_ := Aside0.mk (Kd.R_over' (by (with_reducible repeat (first | apply Kd.R_alloc | apply Kd.R_drewN | apply Kd.R_drew)); exact HO_10.out) (Kd.R_typed (by (with_reducible repeat (first | apply Kd.R_alloc | apply Kd.R_drewN | apply Kd.R_drew)); exact HO_12.out)) (by decide) hg); have n2_ := Aside0.mk (Kd.R_after (ok := (fun k_ => some k_ ≠ (.slice (some ad1029) t1010.length co42 : Value).ownBlock)) (by (with_reducible repeat (first | apply Kd.R_alloc | apply Kd.R_drewN | apply Kd.R_drew)); exact HO_11.out) hg hat); have n3_ := Aside0.mk (blk_grown (g := gb1008) (o := .cells #[.int .i64 a0_0, .int .i64 a0_1, .slice A0_2 l0_2.length c0_2] 28 (0, 0)) (by (with_reducible repeat (first | refine blk_drewN ?_ _ | refine blk_drew ?_ | refine blk_alloc ?_ _)); exact BK1008.out) hg (Kd.R_ne HO_12.out BK1008.out (by decide))); have n4_ := Aside0.mk (hb); have n5_ := Aside0.mk (ho); clear HO_8; clear HO_10; clear HO_11; clear BK1008; clear HB; clear HO_12; have HO_8 := n0_; have HO_10 := n1_; have HO_11 := n2_; have BK1008 := n3_; have HB := n4_; have HO1032 := n5_; clear n0_ n1_ n2_ n3_ n4_ n5_; clear ho hb hg hat))
               go_roundg kj24
               case measure => have := HK1.out; have := HJ24.out; omega
               case rel => exact ⟨(x11_1), (y1030), (wrap64 (x13_1 + 1)), (by first | rfl | (simp; done) | (simp [*]; done)), H', ⟨by have := HK1.out; have := HJ24.out; omega⟩, ⟨by (with_reducible repeat (first | apply Kd.R_alloc | apply Kd.R_drewN | apply Kd.R_drew)); exact HO_8.out⟩, ⟨by (with_reducible repeat (first | apply Kd.R_alloc | apply Kd.R_drewN | apply Kd.R_drew)); exact HO_10.out⟩, ⟨by (with_reducible repeat (first | apply Kd.R_alloc | apply Kd.R_drewN | apply Kd.R_drew)); exact HO_11.out⟩, ⟨by (with_reducible repeat (first | apply Kd.R_alloc | apply Kd.R_drewN | apply Kd.R_drew)); exact HO1032.out⟩, ⟨by (with_reducible repeat (first | refine blk_drewN ?_ _ | refine blk_drew ?_ | refine blk_alloc ?_ _)); exact BK1008.out⟩, ⟨by repeat (first | (with_reducible first | exact HB.out | apply below_alloc | apply pw_below_drewN | apply below_drew1 | refine below_set ?_ GE1008.out) | exact HB.out)⟩⟩
              ·rw [if_neg c41] at H
               exact absurd H (by simp)
             ·rw [if_neg c40] at H
              have c40b0 : ((rd t1010 x13_1) == 0) = false := beq_eq_false_iff_ne.mpr c40
              have c40b1 : ((rd t1010 x13_1) != 0) = true := bne_iff_ne.mpr c40
              have H' := Aside0.mk H
              clear H
              have p1028 : 0 ≤ (x13_1 : Int) := oda
              have q1028 : x13_1 < (t1014.length : Int) := oda
              obtain ⟨ad1028, e1028, hx1028_0⟩ := Kd.at_bool (Kd.R_reads' HO_10.out).2.2 x13_1 p1028 q1028
              (try rw [← Nbq37.out] at hx1028_0)
              cases e1028
              replace p1028 := eq_true p1028
              replace q1028 := eq_true q1028
              obtain ⟨Ao44, co44, eo44⟩ := Kd.R_slice HO_8.out
              subst eo44
              have p1029 : 0 ≤ (x13_1 : Int) := oda
              have q1029 : x13_1 < (t1010.length : Int) := oda
              obtain ⟨ad1029, e1029, hx1029_0⟩ := Kd.at_int (Kd.R_reads' HO_8.out).2.2 x13_1 p1029 q1029
              cases e1029
              replace p1029 := eq_true p1029
              replace q1029 := eq_true q1029
              go_wp2
              go_roundg kj24
              case measure => have := HK1.out; have := HJ24.out; omega
              case rel => exact ⟨(x11_1), (x12_1), (wrap64 (x13_1 + 1)), (by first | rfl | (simp; done) | (simp [*]; done)), H', ⟨by have := HK1.out; have := HJ24.out; omega⟩, ⟨by (with_reducible repeat (first | apply Kd.R_alloc | apply Kd.R_drewN | apply Kd.R_drew)); exact HO_8.out⟩, ⟨by (with_reducible repeat (first | apply Kd.R_alloc | apply Kd.R_drewN | apply Kd.R_drew)); exact HO_10.out⟩, ⟨by (with_reducible repeat (first | apply Kd.R_alloc | apply Kd.R_drewN | apply Kd.R_drew)); exact HO_11.out⟩, ⟨by (with_reducible repeat (first | apply Kd.R_alloc | apply Kd.R_drewN | apply Kd.R_drew)); exact HO_12.out⟩, ⟨by (with_reducible repeat (first | refine blk_drewN ?_ _ | refine blk_drew ?_ | refine blk_alloc ?_ _)); exact BK1008.out⟩, ⟨by repeat (first | (with_reducible first | exact HB.out | apply below_alloc | apply pw_below_drewN | apply below_drew1 | refine below_set ?_ GE1008.out) | exact HB.out)⟩⟩
            ·rw [if_neg c39] at H
             exact absurd H (by simp)
           ·replace c38 := Bool.eq_false_iff.mpr c38
            subst c38
            have H1 : (spec_CertainCells.l0 kj24 t1010 t1013 t1014 x11_1 x12_1 (wrap64 (x13_1 + 1))) = some (r1, r2, r3) := by rw [if_neg (show ¬ (false = true) by decide)] at H; exact H
            clear H
            have H := H1
            clear H1
            have H' := Aside0.mk H
            clear H
            have p1028 : 0 ≤ (x13_1 : Int) := oda
            have q1028 : x13_1 < (t1014.length : Int) := oda
            obtain ⟨ad1028, e1028, hx1028_0⟩ := Kd.at_bool (Kd.R_reads' HO_10.out).2.2 x13_1 p1028 q1028
            (try rw [← Nbq37.out] at hx1028_0)
            cases e1028
            replace p1028 := eq_true p1028
            replace q1028 := eq_true q1028
            go_wp2
            go_roundg kj24
            case measure => have := HK1.out; have := HJ24.out; omega
            case rel => exact ⟨(x11_1), (x12_1), (wrap64 (x13_1 + 1)), (by first | rfl | (simp; done) | (simp [*]; done)), H', ⟨by have := HK1.out; have := HJ24.out; omega⟩, ⟨by (with_reducible repeat (first | apply Kd.R_alloc | apply Kd.R_drewN | apply Kd.R_drew)); exact HO_8.out⟩, ⟨by (with_reducible repeat (first | apply Kd.R_alloc | apply Kd.R_drewN | apply Kd.R_drew)); exact HO_10.out⟩, ⟨by (with_reducible repeat (first | apply Kd.R_alloc | apply Kd.R_drewN | apply Kd.R_drew)); exact HO_11.out⟩, ⟨by (with_reducible repeat (first | apply Kd.R_alloc | apply Kd.R_drewN | apply Kd.R_drew)); exact HO_12.out⟩, ⟨by (with_reducible repeat (first | refine blk_drewN ?_ _ | refine blk_drew ?_ | refine blk_alloc ?_ _)); exact BK1008.out⟩, ⟨by repeat (first | (with_reducible first | exact HB.out | apply below_alloc | apply pw_below_drewN | apply below_drew1 | refine below_set ?_ GE1008.out) | exact HB.out)⟩⟩
          ·rw [if_neg c36] at H
           exact absurd H (by simp)
         ·rw [if_neg c35] at H
          exact absurd H (by simp)
     ·rw [if_neg c24] at H
      have c24b0 : decide (x13_1 < (t1014.length : Int)) = false := decide_eq_false c24
      clear c24
      simp only [Option.some.injEq, Prod.mk.injEq] at H
      obtain ⟨rfl, rfl, rfl⟩ := H
      obtain ⟨Ao45, co45, eo45⟩ := Kd.R_slice HO_10.out
      subst eo45
      go_wp2
      go_ret3
      exact ⟨_, _, by first | rfl | (simp [errW_none, errW_some] <;> rfl) | (simp [*, errW_none, errW_some] <;> rfl), by (with_reducible repeat (first | apply Kd.R_alloc | apply Kd.R_drewN | apply Kd.R_drew)); exact Kd.R_mono HO_11.out (fun _ hk => hk.2), by (with_reducible repeat (first | apply Kd.R_alloc | apply Kd.R_drewN | apply Kd.R_drew)); exact Kd.R_mono HO_12.out (fun _ hk => hk.2), by repeat (first | (with_reducible first | exact HB.out | apply below_alloc | apply pw_below_drewN | apply below_drew1 | refine below_set ?_ GE1008.out) | exact HB.out)⟩
 ·rw [if_neg c4] at H
  have c4b0 : (t1009 == 0) = false := beq_eq_false_iff_ne.mpr c4
  have c4b1 : (t1009 != 0) = true := bne_iff_ne.mpr c4
  simp only [Option.some.injEq, Prod.mk.injEq] at H
  obtain ⟨rfl, rfl, rfl⟩ := H
  go_enter Try.func52, Try.ntmps52
  go_wp2_with (first | ((with_reducible refine gate_dst (N := 2) rfl ?_); refine box_event ?hg (N := 2) ?hd (cs := #[.int .i64 a0_0, .int .i64 a0_1, .slice A0_2 l0_2.length c0_2]) (t := 28) ?hr ?_; (case hd => rfl); (case hg => rfl); (case hr => first | (go_simp; done) | (go_simp; rfl)); intro gb1008 hg w46 hbox hb; have n0_ := Aside0.mk (below_step hb_ hb); have n1_ := Aside0.mk (hbox); have n2_ := Aside0.mk ((by rw [hg]; exact (below_size hb_) : w.heap.size ≤ gb1008)); have n3_ := Aside0.mk ((by rw [hg]; exact (below_size hb_) : w.heap.size ≤ gb1008)); clear HB; have HB := n0_; have BK1008 := n1_; have GW1008 := n2_; have GE1008 := n3_; clear n0_ n1_ n2_ n3_; clear hb hbox hg; have hcz47_0 : w46.cell? ⟨gb1008, 0, none⟩ = some (.int .i64 a0_0) := (blk_cell BK1008.out 0).trans rfl; have hcz47_1 : w46.cell? ⟨gb1008, 1, none⟩ = some (.int .i64 a0_1) := (blk_cell BK1008.out 1).trans rfl; have hcz47_2 : w46.cell? ⟨gb1008, 2, none⟩ = some (.slice A0_2 l0_2.length c0_2) := (blk_cell BK1008.out 2).trans rfl; have hfz47_0 := blk_frozen BK1008.out 0; have hfz47_1 := blk_frozen BK1008.out 1; have hfz47_2 := blk_frozen BK1008.out 2) | ((with_reducible refine gate_callee (f := 83) rfl ?_); refine goesA_ (some 16) rfl rfl Try.func83 (by kernel_rfl) rfl #[.agg #[.int .i64 a0_0, .int .i64 a0_1, .slice A0_2 l0_2.length c0_2], .slice A1 l1.length c1] rfl ?_; (with_reducible refine (spec_l09Shots.calls k a0_0 a0_1 _ _ l0_2 _ _ l1 t1009 _ ?side1 ?side2 ?side3 ?side4 A3.out).mono ?_); (case side1 => repeat (first | exact (Kd.C_below HR0_2.out HB.out) | (with_reducible refine Kd.C_alloc ?_ _) | (with_reducible refine Kd.C_drewN ?_ _) | (with_reducible refine Kd.C_drew ?_))); (case side2 => exact HC0_2.out); (case side3 => repeat (first | exact (Kd.C_below HR1.out HB.out) | (with_reducible refine Kd.C_alloc ?_ _) | (with_reducible refine Kd.C_drewN ?_ _) | (with_reducible refine Kd.C_drew ?_))); (case side4 => exact HC1.out); rintro e w48 ⟨rfl, hb⟩; refine ⟨_, rfl, ?_⟩; have n0_ := Aside0.mk (blk_below (g := gb1008) (o := .cells #[.int .i64 a0_0, .int .i64 a0_1, .slice A0_2 l0_2.length c0_2] 28 (0, 0)) (by (with_reducible repeat (first | refine blk_drewN ?_ _ | refine blk_drew ?_ | refine blk_alloc ?_ _)); exact BK1008.out) hb); have n1_ := Aside0.mk (below_step (by repeat (first | (with_reducible first | exact HB.out | apply below_alloc | apply pw_below_drewN | apply below_drew1 | refine below_set ?_ GE1008.out) | exact HB.out)) hb); clear BK1008; clear HB; have BK1008 := n0_; have HB := n1_; clear n0_ n1_; (try clear hb); (try clear hb2); (try clear hk); (try clear hi)))
  go_ret3
  exact ⟨_, _, by first | rfl | (simp [errW_none, errW_some] <;> rfl) | (simp [*, errW_none, errW_some] <;> rfl), by first | exact Kd.R_nil _ _ _ _ _ | exact Kd.N_nil _ _ _ _ _ | exact Kd.V_nil _ _ _ _ _ | exact Kd.Q_nil _ _ _ _ _ | exact Kd.S_nil _ _ _ _ _, by first | exact Kd.R_nil _ _ _ _ _ | exact Kd.N_nil _ _ _ _ _ | exact Kd.V_nil _ _ _ _ _ | exact Kd.Q_nil _ _ _ _ _ | exact Kd.S_nil _ _ _ _ _, by repeat (first | (with_reducible first | exact HB.out | apply below_alloc | apply pw_below_drewN | apply below_drew1 | refine below_set ?_ GE1008.out) | exact HB.out)⟩
/-! ### impl_shotsCode: function 89 -/
def impl_shotsCode.f (k : Nat) (a0_0 : Int) (a0_1 : Int) (l0_2 : List Int) (l1 : List (S93)) : Option (Int) := (impl_IsSea.f k a0_0 a0_1 l0_2).bind fun t836 => (if t836 = true then ((impl_Sea_areShots.f k a0_0 a0_1 l0_2 l1).bind fun t837 => ((impl_first.f k (([(⟨t837, 2⟩ : S70)] : List (S70)))).bind fun t841 => (some t841))) else (some 1))
set_option maxHeartbeats 8000000 in
set_option maxRecDepth 100000 in
theorem impl_shotsCode.calls (k : Nat) (a0_0 : Int) (a0_1 : Int) (A0_2 : Option Addr) (c0_2 : Nat) (l0_2 : List Int) (A1 : Option Addr) (c1 : Nat) (l1 : List (S93)) (r : Int) (w : World) (hr0_2 : Kd.C (Kd.int .i64) w A0_2 l0_2.length l0_2) (hc0_2 : l0_2.length ≤ c0_2) (hr1 : Kd.C k93 w A1 l1.length l1) (hc1 : l1.length ≤ c1) (h : impl_shotsCode.f k a0_0 a0_1 l0_2 l1 = some r) :
  Calls Try.prog 89 #[.agg #[.int .i64 a0_0, .int .i64 a0_1, .slice A0_2 l0_2.length c0_2], .slice A1 l1.length c1] w fun e w' => e = .returned (.int .i64 r) ∧ Below w.heap.size w w' := by
 have hu28 := Try.underlying28
 have hu70 := Try.underlying70
 have HR0_2 := Aside0.mk hr0_2
 have HC0_2 := Aside0.mk hc0_2
 clear hr0_2 hc0_2
 have HR1 := Aside0.mk hr1
 have HC1 := Aside0.mk hc1
 clear hr1 hc1
 have HB := Aside0.mk (Below.refl w.heap.size w)
 have H : ((impl_IsSea.f k a0_0 a0_1 l0_2).bind fun t836 => (if t836 = true then ((impl_Sea_areShots.f k a0_0 a0_1 l0_2 l1).bind fun t837 => ((impl_first.f k (([(⟨t837, 2⟩ : S70)] : List (S70)))).bind fun t841 => (some t841))) else (some 1))) = some r := h
 clear h
 replace H := Option.bind_eq_some_iff.mp H
 obtain ⟨t836, A30, H⟩ := H
 replace H : (if t836 = true then ((impl_Sea_areShots.f k a0_0 a0_1 l0_2 l1).bind fun t837 => ((impl_first.f k (([(⟨t837, 2⟩ : S70)] : List (S70)))).bind fun t841 => (some t841))) else (some 1)) = some r := H
 have A3 := Aside0.mk A30
 clear A30
 by_cases c4 : t836 = true
 ·subst c4
  have H1 : ((impl_Sea_areShots.f k a0_0 a0_1 l0_2 l1).bind fun t837 => ((impl_first.f k (([(⟨t837, 2⟩ : S70)] : List (S70)))).bind fun t841 => (some t841))) = some r := by rw [if_pos rfl] at H; exact H
  clear H
  have H := H1
  clear H1
  replace H := Option.bind_eq_some_iff.mp H
  obtain ⟨t837, A50, H⟩ := H
  replace H : ((impl_first.f k (([(⟨t837, 2⟩ : S70)] : List (S70)))).bind fun t841 => (some t841)) = some r := H
  have A5 := Aside0.mk A50
  clear A50
  obtain ⟨y838, hy838⟩ : ∃ y_ : List (S70), y_ = (([(⟨t837, 2⟩ : S70)] : List (S70))) := ⟨_, rfl⟩
  replace H : ((impl_first.f k y838).bind fun t841 => (some t841)) = some r := by first | (rw [hy838]; with_reducible exact H) | (have H2_ := (Option.bind_some _ _).symm.trans H; rw [hy838]; with_reducible exact H2_) | (have H2_ := (Option.bind_some _ _).symm.trans H; with_reducible exact H2_) | with_reducible exact H | (rw [hy838]; exact H) | exact H
  have Ny838 := Aside0.mk hy838
  clear hy838
  replace H := Option.bind_eq_some_iff.mp H
  obtain ⟨t841, A60, H⟩ := H
  replace H : (some t841) = some r := H
  have A6 := Aside0.mk A60
  clear A60
  obtain rfl := Option.some.inj H
  go_enter Try.func89, Try.ntmps89
  go_wp2_with (first | ((with_reducible refine gate_dst (N := 2) rfl ?_); refine box_event ?hg (N := 2) ?hd (cs := #[.int .i64 a0_0, .int .i64 a0_1, .slice A0_2 l0_2.length c0_2]) (t := 28) ?hr ?_; (case hd => rfl); (case hg => rfl); (case hr => first | (go_simp; done) | (go_simp; rfl)); intro gb835 hg w7 hbox hb; have n0_ := Aside0.mk (below_step hb_ hb); have n1_ := Aside0.mk (hbox); have n2_ := Aside0.mk ((by rw [hg]; exact (below_size hb_) : w.heap.size ≤ gb835)); have n3_ := Aside0.mk ((by rw [hg]; exact (below_size hb_) : w.heap.size ≤ gb835)); clear HB; have HB := n0_; have BK835 := n1_; have GW835 := n2_; have GE835 := n3_; clear n0_ n1_ n2_ n3_; clear hb hbox hg; have hcz8_0 : w7.cell? ⟨gb835, 0, none⟩ = some (.int .i64 a0_0) := (blk_cell BK835.out 0).trans rfl; have hcz8_1 : w7.cell? ⟨gb835, 1, none⟩ = some (.int .i64 a0_1) := (blk_cell BK835.out 1).trans rfl; have hcz8_2 : w7.cell? ⟨gb835, 2, none⟩ = some (.slice A0_2 l0_2.length c0_2) := (blk_cell BK835.out 2).trans rfl; have hfz8_0 := blk_frozen BK835.out 0; have hfz8_1 := blk_frozen BK835.out 1; have hfz8_2 := blk_frozen BK835.out 2) | ((with_reducible refine gate_callee (f := 59) rfl ?_); refine goesA_ (some 6) rfl rfl Try.func59 (by kernel_rfl) rfl #[.agg #[.int .i64 a0_0, .int .i64 a0_1, .slice A0_2 l0_2.length c0_2]] rfl ?_; (with_reducible refine (impl_IsSea.calls k a0_0 a0_1 _ _ l0_2 true _ ?side1 ?side2 A3.out).mono ?_); (case side1 => repeat (first | exact (Kd.C_below HR0_2.out HB.out) | (with_reducible refine Kd.C_alloc ?_ _) | (with_reducible refine Kd.C_drewN ?_ _) | (with_reducible refine Kd.C_drew ?_))); (case side2 => exact HC0_2.out); rintro e w9 ⟨rfl, hb⟩; refine ⟨_, rfl, ?_⟩; have n0_ := Aside0.mk (blk_below (g := gb835) (o := .cells #[.int .i64 a0_0, .int .i64 a0_1, .slice A0_2 l0_2.length c0_2] 28 (0, 0)) (by (with_reducible repeat (first | refine blk_drewN ?_ _ | refine blk_drew ?_ | refine blk_alloc ?_ _)); exact BK835.out) hb); have n1_ := Aside0.mk (below_step (by repeat (first | (with_reducible first | exact HB.out | apply below_alloc | apply pw_below_drewN | apply below_drew1 | refine below_set ?_ GE835.out) | exact HB.out)) hb); clear BK835; clear HB; have BK835 := n0_; have HB := n1_; clear n0_ n1_; (try clear hb); (try clear hb2); (try clear hk); (try clear hi); have hcz10_0 : w9.cell? ⟨gb835, 0, none⟩ = some (.int .i64 a0_0) := (blk_cell BK835.out 0).trans rfl; have hcz10_1 : w9.cell? ⟨gb835, 1, none⟩ = some (.int .i64 a0_1) := (blk_cell BK835.out 1).trans rfl; have hcz10_2 : w9.cell? ⟨gb835, 2, none⟩ = some (.slice A0_2 l0_2.length c0_2) := (blk_cell BK835.out 2).trans rfl; have hfz10_0 := blk_frozen BK835.out 0; have hfz10_1 := blk_frozen BK835.out 1; have hfz10_2 := blk_frozen BK835.out 2) | ((with_reducible refine gate_callee (f := 86) rfl ?_); refine goesA_ (some 10) rfl rfl Try.func86 (by kernel_rfl) rfl #[.agg #[.int .i64 a0_0, .int .i64 a0_1, .slice A0_2 l0_2.length c0_2], .slice A1 l1.length c1] rfl ?_; (with_reducible refine (impl_Sea_areShots.calls k a0_0 a0_1 _ _ l0_2 _ _ l1 t837 _ ?side1 ?side2 ?side3 ?side4 A5.out).mono ?_); (case side1 => repeat (first | exact (Kd.C_below HR0_2.out HB.out) | (with_reducible refine Kd.C_alloc ?_ _) | (with_reducible refine Kd.C_drewN ?_ _) | (with_reducible refine Kd.C_drew ?_))); (case side2 => exact HC0_2.out); (case side3 => repeat (first | exact (Kd.C_below HR1.out HB.out) | (with_reducible refine Kd.C_alloc ?_ _) | (with_reducible refine Kd.C_drewN ?_ _) | (with_reducible refine Kd.C_drew ?_))); (case side4 => exact HC1.out); rintro e w11 ⟨rfl, hb⟩; refine ⟨_, rfl, ?_⟩; have n0_ := Aside0.mk (blk_below (g := gb835) (o := .cells #[.int .i64 a0_0, .int .i64 a0_1, .slice A0_2 l0_2.length c0_2] 28 (0, 0)) (by (with_reducible repeat (first | refine blk_drewN ?_ _ | refine blk_drew ?_ | refine blk_alloc ?_ _)); exact BK835.out) hb); have n1_ := Aside0.mk (below_step (by repeat (first | (with_reducible first | exact HB.out | apply below_alloc | apply pw_below_drewN | apply below_drew1 | refine below_set ?_ GE835.out) | exact HB.out)) hb); clear BK835; clear HB; have BK835 := n0_; have HB := n1_; clear n0_ n1_; (try clear hb); (try clear hb2); (try clear hk); (try clear hi)) | ((with_reducible refine gate_dst (N := 12) rfl ?_); refine Kd.R_lit k70 _ 70 ?hg (N := 12) ?hd (xs := ([(⟨t837, 2⟩ : S70)] : List (S70))) (inner := [.bool t837, .int .i64 2]) (ok := fun _ => True) (okp := fun _ => True) ?hr ?hp (fun _ hk => hk) trivial (Below.refl _ _) (Nat.le_refl _) (by simp) ?_; (case hd => rfl); (case hg => rfl); (case hr => first | (go_simp; done) | (go_simp; rfl)); (case hp => exact (Reps.c2 (show Kd.M k70 _ _ _ (⟨t837, 2⟩ : S70) [.bool t837, .int .i64 2] from (k70_mkM _ _ _ (⟨t837, 2⟩ : S70) )) (Reps.none _ _))); intro v839 w12 ho13 hb hg_ hnew_; clear hg_ hnew_; (first | rw [← Ny838.out] at ho13 | (simp only [Int.reduceToNat] at ho13; rw [← Ny838.out] at ho13)); have n0_ := Aside0.mk (Kd.R_lower ho13 (below_size (by repeat (first | (with_reducible first | exact HB.out | apply below_alloc | apply pw_below_drewN | apply below_drew1 | refine below_set ?_ GE835.out) | exact HB.out)))); have n1_ := Aside0.mk (blk_below (g := gb835) (o := .cells #[.int .i64 a0_0, .int .i64 a0_1, .slice A0_2 l0_2.length c0_2] 28 (0, 0)) (by (with_reducible repeat (first | refine blk_drewN ?_ _ | refine blk_drew ?_ | refine blk_alloc ?_ _)); exact BK835.out) hb); have n2_ := Aside0.mk (below_step (by repeat (first | (with_reducible first | exact HB.out | apply below_alloc | apply pw_below_drewN | apply below_drew1 | refine below_set ?_ GE835.out) | exact HB.out)) hb); clear BK835; clear HB; have HO840 := n0_; have BK835 := n1_; have HB := n2_; clear n0_ n1_ n2_; clear hb ho13; obtain ⟨Ao14, co14, eo14⟩ := Kd.R_slice HO840.out; subst eo14) | ((with_reducible refine gate_callee (f := 58) rfl ?_); refine goesA_ (some 13) rfl rfl Try.func58 (by kernel_rfl) rfl #[.slice Ao14 y838.length co14] rfl ?_; (with_reducible refine (impl_first.calls k _ _ y838 t841 _ ?side1 ?side2 A6.out).mono ?_); (case side1 => repeat (first | exact (Kd.R_reads' HO840.out).2.2 | (with_reducible refine Kd.C_alloc ?_ _) | (with_reducible refine Kd.C_drewN ?_ _) | (with_reducible refine Kd.C_drew ?_))); (case side2 => exact (Kd.R_reads' HO840.out).2.1); rintro e w15 ⟨rfl, hb⟩; refine ⟨_, rfl, ?_⟩; have n0_ := Aside0.mk (Kd.R_below (by (with_reducible repeat (first | apply Kd.R_alloc | apply Kd.R_drewN | apply Kd.R_drew)); exact HO840.out) hb); have n1_ := Aside0.mk (blk_below (g := gb835) (o := .cells #[.int .i64 a0_0, .int .i64 a0_1, .slice A0_2 l0_2.length c0_2] 28 (0, 0)) (by (with_reducible repeat (first | refine blk_drewN ?_ _ | refine blk_drew ?_ | refine blk_alloc ?_ _)); exact BK835.out) hb); have n2_ := Aside0.mk (below_step (by repeat (first | (with_reducible first | exact HB.out | apply below_alloc | apply pw_below_drewN | apply below_drew1 | refine below_set ?_ GE835.out) | exact HB.out)) hb); clear HO840; clear BK835; clear HB; have HO840 := n0_; have BK835 := n1_; have HB := n2_; clear n0_ n1_ n2_; (try clear hb); (try clear hb2); (try clear hk); (try clear hi)))
  go_ret
  exact ⟨by first | rfl | (simp [errW_none, errW_some] <;> rfl) | (simp [*, errW_none, errW_some] <;> rfl), by repeat (first | (with_reducible first | exact HB.out | apply below_alloc | apply pw_below_drewN | apply below_drew1 | refine below_set ?_ GE835.out) | exact HB.out)⟩
 ·replace c4 := Bool.eq_false_iff.mpr c4
  subst c4
  have H1 : (some 1) = some r := by rw [if_neg (show ¬ (false = true) by decide)] at H; exact H
  clear H
  have H := H1
  clear H1
  obtain rfl := Option.some.inj H
  go_enter Try.func89, Try.ntmps89
  go_wp2_with (first | ((with_reducible refine gate_dst (N := 2) rfl ?_); refine box_event ?hg (N := 2) ?hd (cs := #[.int .i64 a0_0, .int .i64 a0_1, .slice A0_2 l0_2.length c0_2]) (t := 28) ?hr ?_; (case hd => rfl); (case hg => rfl); (case hr => first | (go_simp; done) | (go_simp; rfl)); intro gb835 hg w16 hbox hb; have n0_ := Aside0.mk (below_step hb_ hb); have n1_ := Aside0.mk (hbox); have n2_ := Aside0.mk ((by rw [hg]; exact (below_size hb_) : w.heap.size ≤ gb835)); have n3_ := Aside0.mk ((by rw [hg]; exact (below_size hb_) : w.heap.size ≤ gb835)); clear HB; have HB := n0_; have BK835 := n1_; have GW835 := n2_; have GE835 := n3_; clear n0_ n1_ n2_ n3_; clear hb hbox hg; have hcz17_0 : w16.cell? ⟨gb835, 0, none⟩ = some (.int .i64 a0_0) := (blk_cell BK835.out 0).trans rfl; have hcz17_1 : w16.cell? ⟨gb835, 1, none⟩ = some (.int .i64 a0_1) := (blk_cell BK835.out 1).trans rfl; have hcz17_2 : w16.cell? ⟨gb835, 2, none⟩ = some (.slice A0_2 l0_2.length c0_2) := (blk_cell BK835.out 2).trans rfl; have hfz17_0 := blk_frozen BK835.out 0; have hfz17_1 := blk_frozen BK835.out 1; have hfz17_2 := blk_frozen BK835.out 2) | ((with_reducible refine gate_callee (f := 59) rfl ?_); refine goesA_ (some 6) rfl rfl Try.func59 (by kernel_rfl) rfl #[.agg #[.int .i64 a0_0, .int .i64 a0_1, .slice A0_2 l0_2.length c0_2]] rfl ?_; (with_reducible refine (impl_IsSea.calls k a0_0 a0_1 _ _ l0_2 false _ ?side1 ?side2 A3.out).mono ?_); (case side1 => repeat (first | exact (Kd.C_below HR0_2.out HB.out) | (with_reducible refine Kd.C_alloc ?_ _) | (with_reducible refine Kd.C_drewN ?_ _) | (with_reducible refine Kd.C_drew ?_))); (case side2 => exact HC0_2.out); rintro e w18 ⟨rfl, hb⟩; refine ⟨_, rfl, ?_⟩; have n0_ := Aside0.mk (blk_below (g := gb835) (o := .cells #[.int .i64 a0_0, .int .i64 a0_1, .slice A0_2 l0_2.length c0_2] 28 (0, 0)) (by (with_reducible repeat (first | refine blk_drewN ?_ _ | refine blk_drew ?_ | refine blk_alloc ?_ _)); exact BK835.out) hb); have n1_ := Aside0.mk (below_step (by repeat (first | (with_reducible first | exact HB.out | apply below_alloc | apply pw_below_drewN | apply below_drew1 | refine below_set ?_ GE835.out) | exact HB.out)) hb); clear BK835; clear HB; have BK835 := n0_; have HB := n1_; clear n0_ n1_; (try clear hb); (try clear hb2); (try clear hk); (try clear hi)))
  go_ret
  exact ⟨by first | rfl | (simp [errW_none, errW_some] <;> rfl) | (simp [*, errW_none, errW_some] <;> rfl), by repeat (first | (with_reducible first | exact HB.out | apply below_alloc | apply pw_below_drewN | apply below_drew1 | refine below_set ?_ GE835.out) | exact HB.out)⟩
-- (impl.Sea).open, by hand: the cells at which no shot was, and that are accepted. (for 73 72)
-- PredK idxK chosenTo
/-- What is asked of a function value over shots. -/
def PredS (g : Nat) (lb : Array Value) (p : S93 → Bool) (w : World) : Prop :=
  ∀ (W : World) (x : S93), Below w.heap.size w W → Calls Try.prog g (#[.agg #[.int .i64 x.f0, .int .i64 x.f1]] ++ lb) W fun e w' => e = .returned (.bool (p x)) ∧ Below W.heap.size W w'
theorem wrap_nat3_ {N : Nat} (h : N ≤ 25) : wrap64 (N : Int) = (N : Int) := by unfold wrap64; omega
set_option maxHeartbeats 4000000 in
set_option maxRecDepth 100000 in
theorem idxShot_calls (g : Nat) (lb : Array Value) (p : S93 → Bool) (eg : ∀ args w, (callFunc g args).run Try.prog w = .ok (.enter g args) w)
    (A0 : Option Addr) (c0 : Nat) (l0 : List S93) (w : World) (hp : PredS g lb p w) (hr0 : Kd.C k93 w A0 l0.length l0) (hm : l0.length ≤ 1048576) :
    Calls Try.prog 127 #[.slice A0 l0.length c0, .func (.func g) #[] lb] w fun e w' => e = .returned (.int .i64 (idxK p l0 0)) ∧ Below w.heap.size w w' := by
  have HP := Aside0.mk hp
  have HR := Aside0.mk hr0
  clear hp hr0
  go_enter Try.func127, Try.ntmps127
  go_wp2
  go_loopg [5, 8] l0.length (fun gg _ s8 wr => ∃ kk : Nat, kk ≤ l0.length ∧ l0.length - kk ≤ gg ∧ s8 = .int .i64 kk ∧ Aside0 (idxK p (l0.drop kk) kk = idxK p l0 0) ∧ Aside0 (Below w.heap.size w wr))
  case atStart => exact ⟨0, Nat.zero_le _, by omega, rfl, ⟨rfl⟩, ⟨Below.refl _ _⟩⟩
  case round =>
    obtain ⟨kk, hkk, hg, rfl, A, HB⟩ := hrel
    by_cases hlt : kk < l0.length
    · have hltz : (kk : Int) < (l0.length : Int) := by omega
      obtain ⟨ad, rfl, hc1, hc2⟩ := at_T93 (Kd.C_below HR.out HB.out) (kk : Int) (by omega) hltz
      have hcall := HP.out wr (rd_T93 l0 (kk : Int)) HB.out
      have E := Aside0.mk (idxK_drop p l0 kk hlt)
      rw [← rd93_get l0 kk hlt] at E
      have hk0 : (0 : Int) ≤ (kk : Int) := by omega
      generalize rd_T93 l0 (kk : Int) = x at hc1 hc2 hcall E
      rw [Int.toNat_natCast] at hc1 hc2
      generalize p x = b at hcall E
      cases b with
      | true =>
        go_wp2_with (go_at_fn g; refine hcall.mono ?_; rintro e w' ⟨rfl, hb⟩)
        go_ret
        refine ⟨?_, below_then HB.out HB.out.size hb⟩
        rw [← A.out, E.out]; rfl
      | false =>
        go_wp2_with (go_at_fn g; refine hcall.mono ?_; rintro e w' ⟨rfl, hb⟩)
        go_roundg (l0.length - (kk + 1))
        case measure => omega
        case rel => exact ⟨kk + 1, by omega, by omega, by go_num, ⟨by rw [← A.out, E.out]; rfl⟩, ⟨below_then HB.out HB.out.size hb⟩⟩
    · have hltz : ¬ (kk : Int) < (l0.length : Int) := by omega
      have : kk = l0.length := by omega
      subst this
      go_wp2
      go_ret
      refine ⟨?_, HB.out⟩
      rw [← A.out]; simp [idxK]
set_option maxHeartbeats 1000000 in
theorem conShot_calls (g : Nat) (lb : Array Value) (p : S93 → Bool) (eg : ∀ args w, (callFunc g args).run Try.prog w = .ok (.enter g args) w)
    (A0 : Option Addr) (c0 : Nat) (l0 : List S93) (w : World) (hp : PredS g lb p w) (hr0 : Kd.C k93 w A0 l0.length l0) (hm : l0.length ≤ 1048576) :
    Calls Try.prog 115 #[.slice A0 l0.length c0, .func (.func g) #[] lb] w fun e w' => e = .returned (.bool (l0.any p)) ∧ Below w.heap.size w w' := by
  have HI := idxShot_calls g lb p eg A0 c0 l0 w hp hr0 hm
  have HA := Aside0.mk (idxK_any p l0)
  clear hp hr0
  generalize idxK p l0 0 = ix at HI HA
  go_enter Try.func115, Try.ntmps115
  go_wp2_with (go_at_call 127; refine HI.mono ?_; rintro e w' ⟨rfl, hb⟩)
  go_ret
  exact ⟨by rw [← HA.out]; first | rfl | simp [ge_iff_le], hb⟩
set_option maxHeartbeats 1000000 in
theorem pred_cell {w : World} {g3 : Nat} {c : Int} (h : w.heap[g3]? = some (.cells #[.int .i64 c] 2 (0, 0))) : PredS 116 #[.pointer (some ⟨g3, 0, none⟩)] (fun x => x.f0 == c) w := by
  intro W x hb
  have HC := Aside0.mk (blk_below h hb)
  have HB := Aside0.mk (Below.refl W.heap.size W)
  clear h hb
  obtain ⟨b, hbb⟩ : ∃ b, (x.f0 == c) = b := ⟨_, rfl⟩
  have hu93 := Try.underlying93
  show Calls _ _ _ _ fun e w' => e = .returned (.bool (x.f0 == c)) ∧ _
  rw [hbb]
  go_enter Try.func116, Try.ntmps116
  go_wp2_with (first | ((with_reducible refine gate_dst (N := 2) rfl ?_); refine box_event ?hg (N := 2) ?hd (cs := #[.int .i64 x.f0, .int .i64 x.f1]) (t := 93) ?hr ?_; (case hd => rfl); (case hg => rfl); (case hr => first | (go_simp; done) | (go_simp; rfl)); intro g2 hg wb2 hbox hb; have HX := Aside0.mk hbox; have n_ := Aside0.mk (blk_below HC.out hb); clear HC; have HC := n_; clear n_; have n_ := Aside0.mk (below_step HB.out hb); clear HB; have HB := n_; clear n_; clear hbox hb hg; have hx0 := (blk_cell HX.out 0).trans rfl; have hx1 := (blk_cell HX.out 1).trans rfl; have hc0 := (blk_cell HC.out 0).trans rfl))
  go_ret
  exact ⟨by first | rfl | rw [hbb], HB.out⟩
set_option maxHeartbeats 4000000 in
set_option maxRecDepth 100000 in
/-- The function value that open hands on. -/
theorem pred_open {w W0_ : World} {ga : Nat} {lba : Array Value} {q : Int → Prop} {acc : Int → Bool} {g4 g5 : Nat} {A3 : Option Addr} {c3 : Nat} {T : List S93} (hacc : (∀ args w, (callFunc ga args).run Try.prog w = .ok (.enter ga args) w) ∧ PredK Try.prog ga lba (Kd.int .i64) q acc w) (hB0 : Below w.heap.size w W0_)
    (h5 : W0_.heap[g5]? = some (.cells #[.func (.func ga) #[] lba] 82 (0, 0))) (h4 : W0_.heap[g4]? = some (.cells #[.slice A3 T.length c3] 55 (0, 0))) (hT : Kd.C k93 w A3 T.length T) (hTl : T.length ≤ 1048576) :
    PredK Try.prog 114 #[.pointer (some ⟨g5, 0, none⟩), .pointer (some ⟨g4, 0, none⟩)] (Kd.int .i64) q (fun c => acc c && !(T.any fun x => x.f0 == c)) W0_ := by
  intro W c v hq hK hb
  have hv : v = .int .i64 c := by have e : [v] = [.int .i64 c] := hK; injection e
  subst hv
  have eg116 : ∀ args w, (callFunc 116 args).run Try.prog w = .ok (.enter 116 args) w := enters_of Try.func116 (by kernel_rfl) rfl
  have HB := Aside0.mk (below_step hB0 hb)
  have H5 := Aside0.mk (blk_below h5 hb)
  have H4 := Aside0.mk (blk_below h4 hb)
  have eg := hacc.1
  have HAcc := Aside0.mk hacc.2
  have HT := Aside0.mk hT
  have HTl := Aside0.mk hTl
  have HQ := Aside0.mk hq
  have HBW := Aside0.mk (show ∀ w' : World, Below w.heap.size w w' → W.heap.size ≤ w'.heap.size → True from fun _ _ _ => trivial)
  have HB0 := Aside0.mk (Below.refl W.heap.size W)
  clear hacc hB0 h5 h4 hT hTl hq hK hb HBW
  obtain ⟨ab, hab⟩ : ∃ ab, acc c = ab := ⟨_, rfl⟩
  obtain ⟨tb, htb⟩ : ∃ tb, (T.any fun x => x.f0 == c) = tb := ⟨_, rfl⟩
  show Calls _ _ _ _ fun e w' => e = .returned (.bool (acc c && !(T.any fun x => x.f0 == c))) ∧ _
  rw [htb, hab]
  have HAB := Aside0.mk hab
  have HTB := Aside0.mk htb
  clear hab htb
  cases ab with
  | false =>
    go_enter Try.func114, Try.ntmps114
    go_wp2_with (first | ((with_reducible refine gate_dst (N := 3) rfl ?_); refine box_event ?hg (N := 3) ?hd (cs := #[.int .i64 c]) (t := 2) ?hr ?_; (case hd => rfl); (case hg => rfl); (case hr => first | (go_simp; done) | (go_simp; rfl)); intro g3 hg wb3 hbox hb; have HX := Aside0.mk hbox; have n_ := Aside0.mk (blk_below H5.out hb); clear H5; have H5 := n_; clear n_; have n_ := Aside0.mk (blk_below H4.out hb); clear H4; have H4 := n_; clear n_; have n_ := Aside0.mk (below_step HB.out hb); clear HB; have HB := n_; clear n_; have n_ := Aside0.mk (below_step HB0.out hb); clear HB0; have HB0 := n_; clear n_; clear hbox hb hg; have h3_ := (blk_cell HX.out 0).trans rfl; have h5_ := (blk_cell H5.out 0).trans rfl; have h4_ := (blk_cell H4.out 0).trans rfl) | (go_at_fn ga; have hc_ := HAcc.out _ c (.int .i64 c) HQ.out rfl HB.out; rw [HAB.out] at hc_; refine hc_.mono ?_; clear hc_; rintro e wa ⟨rfl, hb⟩; (try clear h3_); (try clear h4_); (try clear h5_); have n1_ := Aside0.mk (blk_below HX.out hb); have n2_ := Aside0.mk (blk_below H4.out hb); have n3_ := Aside0.mk (below_step HB.out hb); have n4_ := Aside0.mk (below_step HB0.out hb); clear hb HX H4 H5 HB HB0; have HX := n1_; have H4 := n2_; have HB := n3_; have HB0 := n4_; clear n1_ n2_ n3_ n4_; have h3_ := (blk_cell HX.out 0).trans rfl; have h4_ := (blk_cell H4.out 0).trans rfl))
    go_ret
    exact ⟨rfl, HB0.out⟩
  | true =>
    go_enter Try.func114, Try.ntmps114
    go_wp2_with (first | ((with_reducible refine gate_dst (N := 3) rfl ?_); refine box_event ?hg (N := 3) ?hd (cs := #[.int .i64 c]) (t := 2) ?hr ?_; (case hd => rfl); (case hg => rfl); (case hr => first | (go_simp; done) | (go_simp; rfl)); intro g3 hg wb3 hbox hb; have HX := Aside0.mk hbox; have n_ := Aside0.mk (blk_below H5.out hb); clear H5; have H5 := n_; clear n_; have n_ := Aside0.mk (blk_below H4.out hb); clear H4; have H4 := n_; clear n_; have n_ := Aside0.mk (below_step HB.out hb); clear HB; have HB := n_; clear n_; have n_ := Aside0.mk (below_step HB0.out hb); clear HB0; have HB0 := n_; clear n_; clear hbox hb hg; have h3_ := (blk_cell HX.out 0).trans rfl; have h5_ := (blk_cell H5.out 0).trans rfl; have h4_ := (blk_cell H4.out 0).trans rfl) | (go_at_fn ga; have hc_ := HAcc.out _ c (.int .i64 c) HQ.out rfl HB.out; rw [HAB.out] at hc_; refine hc_.mono ?_; clear hc_; rintro e wa ⟨rfl, hb⟩; (try clear h3_); (try clear h4_); (try clear h5_); have n1_ := Aside0.mk (blk_below HX.out hb); have n2_ := Aside0.mk (blk_below H4.out hb); have n3_ := Aside0.mk (below_step HB.out hb); have n4_ := Aside0.mk (below_step HB0.out hb); clear hb HX H4 H5 HB HB0; have HX := n1_; have H4 := n2_; have HB := n3_; have HB0 := n4_; clear n1_ n2_ n3_ n4_; have h3_ := (blk_cell HX.out 0).trans rfl; have h4_ := (blk_cell H4.out 0).trans rfl) | (go_at_call 115; have hc_ := conShot_calls 116 #[.pointer (some ⟨g3, 0, none⟩)] (fun x => x.f0 == c) eg116 A3 c3 T _ (pred_cell HX.out) (Kd.C_below HT.out HB.out) HTl.out; rw [HTB.out] at hc_; refine hc_.mono ?_; clear hc_; rintro e wc ⟨rfl, hb⟩; (try clear h3_); (try clear h4_); (try clear h5_); have n3_ := Aside0.mk (below_step HB0.out hb); clear hb HB0; have HB0 := n3_; clear n3_))
    go_ret
    exact ⟨rfl, HB0.out⟩
/-- The cells that open gives. -/
def openV (N : Nat) (T : List S93) (acc : Int → Bool) : List Int := chosenTo (fun c => acc c && !(T.any fun x => x.f0 == c)) N
set_option maxHeartbeats 4000000 in
set_option maxRecDepth 100000 in
theorem open_calls {W0 H0 N : Nat} (hN : W0 * H0 = N) (hN25 : N ≤ 25) {ga : Nat} {lba : Array Value} {q : Int → Prop} {acc : Int → Bool} (eg : ∀ args w, (callFunc ga args).run Try.prog w = .ok (.enter ga args) w) {w : World} (hacc : PredK Try.prog ga lba (Kd.int .i64) q acc w) (hq : ∀ x, 0 ≤ x → x < (N : Int) → q x)
    {A2 : Option Addr} {c2 : Nat} {ships : List Int} {A3 : Option Addr} {c3 : Nat} {T : List S93} (hs : Kd.C (Kd.int .i64) w A2 ships.length ships) (hsc : ships.length ≤ c2) (hT : Kd.C k93 w A3 T.length T) (hTl : T.length ≤ 1048576) :
    Calls Try.prog 95 #[.agg #[.int .i64 (W0 : Int), .int .i64 (H0 : Int), .slice A2 ships.length c2], .slice A3 T.length c3, .func (.func ga) #[] lba] w fun e w' => ∃ v0_ : Value, e = .returned v0_ ∧ Kd.R (Kd.int .i64) 2 w' w.heap.size (fun _ => True) v0_ (openV N T acc) ∧ Below w.heap.size w w' := by
  have eg114 : ∀ args w, (callFunc 114 args).run Try.prog w = .ok (.enter 114 args) w := enters_of Try.func114 (by kernel_rfl) rfl
  have HAcc := Aside0.mk (And.intro eg hacc)
  have HQ := Aside0.mk hq
  have HSh := Aside0.mk hs
  have HC2 := Aside0.mk hsc
  have HT := Aside0.mk hT
  have HTl := Aside0.mk hTl
  have HN17 := Aside0.mk (show (N : Int) ≤ 17592186044416 by omega)
  have HCel := Aside0.mk (show impl_Sea_cells.f (W0 : Int) (H0 : Int) ships = some (N : Int) by
    unfold impl_Sea_cells.f
    rw [show (W0 : Int) * (H0 : Int) = (N : Int) by rw [← hN, Int.natCast_mul], wrap_nat3_ hN25])
  have HB := Aside0.mk (Below.refl w.heap.size w)
  have hu28 := Try.underlying28
  clear hacc hq hs hsc hT hTl hN hN25
  go_enter Try.func95, Try.ntmps95
  go_wp2_with (first | ((with_reducible refine gate_dst (N := 3) rfl ?_); refine box_event ?hg (N := 3) ?hd (cs := #[.int .i64 (W0 : Int), .int .i64 (H0 : Int), .slice A2 ships.length c2]) (t := 28) ?hr ?_; (case hd => rfl); (case hg => rfl); (case hr => first | (go_simp; done) | (go_simp; rfl)); intro g3 hg wb3 hbox hb; have H3 := Aside0.mk hbox; have n_ := Aside0.mk (below_step HB.out hb); clear HB; have HB := n_; clear n_; clear hbox hb hg; have s0_ := (blk_cell H3.out 0).trans rfl; have s1_ := (blk_cell H3.out 1).trans rfl; have s2_ := (blk_cell H3.out 2).trans rfl) | ((with_reducible refine gate_dst (N := 4) rfl ?_); refine box_event ?hg (N := 4) ?hd (cs := #[.slice A3 T.length c3]) (t := 55) ?hr ?_; (case hd => rfl); (case hg => rfl); (case hr => first | (go_simp; done) | (go_simp; rfl)); intro g4 hg wb4 hbox hb; have H4 := Aside0.mk hbox; have n_ := Aside0.mk (below_step HB.out hb); clear HB; have HB := n_; clear n_; have n_ := Aside0.mk (blk_below H3.out hb); clear H3; have H3 := n_; clear n_; clear hbox hb hg; (try clear s0_); (try clear s1_); (try clear s2_); have s0_ := (blk_cell H3.out 0).trans rfl; have s1_ := (blk_cell H3.out 1).trans rfl; have s2_ := (blk_cell H3.out 2).trans rfl) | ((with_reducible refine gate_dst (N := 5) rfl ?_); refine box_event ?hg (N := 5) ?hd (cs := #[.func (.func ga) #[] lba]) (t := 82) ?hr ?_; (case hd => rfl); (case hg => rfl); (case hr => first | (go_simp; done) | (go_simp; rfl)); intro g5 hg wb5 hbox hb; have H5 := Aside0.mk hbox; have n_ := Aside0.mk (below_step HB.out hb); clear HB; have HB := n_; clear n_; have n_ := Aside0.mk (blk_below H3.out hb); clear H3; have H3 := n_; clear n_; have n_ := Aside0.mk (blk_below H4.out hb); clear H4; have H4 := n_; clear n_; clear hbox hb hg; (try clear s0_); (try clear s1_); (try clear s2_); have s0_ := (blk_cell H3.out 0).trans rfl; have s1_ := (blk_cell H3.out 1).trans rfl; have s2_ := (blk_cell H3.out 2).trans rfl) | (go_at_call 73; refine (impl_Sea_cells.calls (W0 : Int) (H0 : Int) A2 c2 ships (N : Int) _ (Kd.C_below HSh.out HB.out) HC2.out HCel.out).mono ?_; rintro e wl ⟨rfl, hb⟩; (try clear s0_); (try clear s1_); (try clear s2_); have n1_ := Aside0.mk (blk_below H4.out hb); have n2_ := Aside0.mk (blk_below H5.out hb); have n3_ := Aside0.mk (below_step HB.out hb); clear hb H3 H4 H5 HB; have H4 := n1_; have H5 := n2_; have HB := n3_; clear n1_ n2_ n3_) | (go_at_call 72; refine (impl_chosen.calls 114 #[.pointer (some ⟨g5, 0, none⟩), .pointer (some ⟨g4, 0, none⟩)] q (fun c => acc c && !(T.any fun x => x.f0 == c)) eg114 (N : Int) _ (pred_open HAcc.out HB.out H5.out H4.out HT.out HTl.out) HQ.out HN17.out).mono ?_; rintro e wz ⟨v10, rfl, ho, hb⟩; rw [Int.toNat_natCast] at ho; have HO := Aside0.mk (Kd.R_lower ho (below_size HB.out)); have n3_ := Aside0.mk (below_step HB.out hb); clear ho hb HB; have HB := n3_; clear n3_))
  go_ret
  exact ⟨_, rfl, HO.out, HB.out⟩

end Go.Proofs.Ytiancdhpdjmacaa.F
