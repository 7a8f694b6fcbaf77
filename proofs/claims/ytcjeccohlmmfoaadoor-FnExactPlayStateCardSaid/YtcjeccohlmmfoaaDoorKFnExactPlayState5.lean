-- written by the session's program xp.py over the kit's print program, and by hand; texts joined by pack.py
import Derived.Test.YtcjeccohlmmfoaaDoorKFnExactPlayState4
namespace Go.Proofs.YtcjeccohlmmfoaaDoor.F
open Go.RowKit Go.Proofs.YtcjeccohlmmfoaaDoorW.PrintWords Go.Proofs.YtcjeccohlmmfoaaDoorW.PrintLast Go.Proofs.YtcjeccohlmmfoaaDoorW.PrintMore
attribute [local go_sem] max2_int min2_int max_two min_two max_three min_three max_four min_four   -- for this text's walks alone
set_option linter.unusedVariables false
set_option linter.unusedSimpArgs false

/-! ### impl_PlayState: function 19 -/
-- EXTERNAL: by hand
-- impl_Net_winners impl_stateOfCode impl_Net_best impl_turn_open impl_turn_after impl_Net_over
theorem WinEnv.grownR {w0 : World} {gK gX gF gm : Nat} {p : Int} {A : Option Addr} {c : Nat} {l : List (List Int)} {N : Nat} {W W1 : World} (h : WinEnv w0 gK gX gF gm p A c l N W) {row : Option Nat} (hg : W.grownBy W1 row) (B : Nat) (hB : ∀ k, row = some k → B ≤ k) (h1 : gK < B ∧ gX < B ∧ gF < B ∧ gm < B ∧ w0.heap.size ≤ B) : WinEnv w0 gK gX gF gm p A c l N W1 := by
  have ne : ∀ g, g < B → some g ≠ row := fun g hl e => by have := hB g e.symm; omega
  refine ⟨pw_below_grown h.below row (h.below.size) hg (fun k e => Nat.le_trans h1.2.2.2.2 (hB k e)), blk_grown h.hk hg (ne _ h1.1), blk_grown h.hx hg (ne _ h1.2.1), blk_grown h.hf hg (ne _ h1.2.2.1), ?_, h.ne, h.base⟩
  obtain ⟨D, e1, e2⟩ := h.memo
  exact ⟨D, e1.kept hg (ne _ h1.2.2.2.1), e2⟩
theorem grown_setRow (W : World) (g : Nat) (cs : Array Value) : W.grownBy (W.setRow g cs) (some g) :=
  ⟨rfl, rfl, rfl, by simp, fun i hi hne => setRow_other W g i cs (fun e => hne (by rw [e]))⟩
section
variable {P : Program} {ops : Array Oper} {rest : List Oper} {o : Oper} {a : Act} {W : World} {Q : Exit → Act → World → Prop} {K : Act → World → Prop}
theorem row_event (hgd : o.guard = none) (ty : TypeId) (p : Tmp) (v : Operand) (ho : o.op = .store ty (.tmp p) v) (hN : o.dst = none) (g : Nat) (cells : Array Value) (hx : a.eval (.tmp p) = .pointer (some ⟨g, 0, none⟩)) (hy : a.eval v = .agg cells) (t : TypeId) (old : Array Value) (hg : W.heap[g]? = some (.cells old t (0, 0))) (hi : (P.info? ty).map (·.size) = some cells.size) (hold : old.size = cells.size) (h1 : cells.all (·.oneCell') = true) (h : wpList P ops Q rest a (W.setRow g cells)) : wpList P ops Q (o :: rest) a W := by
  refine wpList_plain hgd fun K hK => ?_
  refine wp_store_row ty (.tmp p) v ho g cells hx hy t old hg hi hold h1 ?_
  rw [hN]
  exact hK _ _ h
theorem row_step (hw : Region.wanted o (yielded ops a.tmps) = true) (ty : TypeId) (p : Tmp) (v : Operand) (ho : o.op = .store ty (.tmp p) v) (hN : o.dst = none) (g : Nat) (cells : Array Value) (hx : a.eval (.tmp p) = .pointer (some ⟨g, 0, none⟩)) (hy : a.eval v = .agg cells) (t : TypeId) (old : Array Value) (hg : W.heap[g]? = some (.cells old t (0, 0))) (hi : (P.info? ty).map (·.size) = some cells.size) (hold : old.size = cells.size) (h1 : cells.all (·.oneCell') = true) (h : K (a.put none undef) (W.setRow g cells)) : if Region.wanted o (yielded ops a.tmps) = true then Oper.wp P o a W K Q else K (a.put none undef) W := by
  rw [if_pos hw]
  refine wp_store_row ty (.tmp p) v ho g cells hx hy t old hg hi hold h1 ?_
  rw [hN]
  exact h
theorem val_step (hw : Region.wanted o (yielded ops a.tmps) = true) {N : Option Tmp} (hN : o.dst = N) (v : Value) (hrun : (execOp a.eval o).run P W = .ok (.value v) W) (h : K (a.put N v) W) : if Region.wanted o (yielded ops a.tmps) = true then Oper.wp P o a W K Q else K (a.put N undef) W := by
  rw [if_pos hw]
  unfold Oper.wp
  rw [hrun]
  subst hN
  exact h
end
/-- A game played by the best moves. -/
def playV (l : List (List Int)) : Nat → ByteArray → Bool → Option ByteArray
  | 0, s, _ => if ovV l s = 0 then none else some s
  | n + 1, s, b => if ovV l s = 0 then (if bestV l s b ++ freeV s = [] then none else playV l n (afterV s (rd (bestV l s b ++ freeV s) 0) b) (!b)) else some s
theorem bestV_sub {l : List (List Int)} {s : ByteArray} {b : Bool} {x : Int} (h : x ∈ bestV l s b ++ freeV s) : x ∈ freeV s := by
  rcases List.mem_append.1 h with h | h
  · unfold bestV at h
    by_cases h0 : ovV l s = 0
    · rw [if_pos h0] at h; exact (List.mem_filter.1 h).1
    · rw [if_neg h0] at h; cases h
  · exact h
theorem rd_mem0 {L : List Int} (h : L ≠ []) : rd L 0 ∈ L := by
  cases L with
  | nil => exact absurd rfl h
  | cons x r => exact List.mem_cons_self ..
theorem bestV_len (l : List (List Int)) (s : ByteArray) (b : Bool) : (bestV l s b).length ≤ (freeV s).length := by
  unfold bestV
  split
  · exact List.length_filter_le _ _
  · exact Nat.zero_le _
theorem infoTurn : (Tryd.prog.info? 64).map (·.size) = some 2 := by kernel_rfl
theorem winCnt_play : 300 * winCnt 10 < maxLen := by simp [winCnt, maxLen]
def impl_PlayState.f (k : Nat) (a0_0 : Int) (l0_1 : List (List Int)) (a1 : ByteArray) (a2 : Bool) : Option (ByteArray × Int) := (impl_stateOfCode.f k a0_0 l0_1 a1).bind fun c => if c = 0 then (if isNetV a0_0 l0_1 = true ∧ a1.size = l0_1.length then (playV l0_1 10 a1 a2).bind fun r => some (r, 0) else none) else some (⟨#[]⟩, c)
def impl_PlayState.T6 : Bool × List (List Nat × List Nat) := (true, [([], []), ([], []), ([], []), ([], []), ([1, 2, 3], [1, 2, 3]), ([], []), ([5, 4], [5]), ([4, 6, 6], [4, 6]), ([7], [7]), ([8], [8]), ([0, 9, 7], [0, 9]), ([10, 10, 0, 1, 2, 3, 4, 5, 6, 7, 8, 9, 10], [10])])
def impl_PlayState.B6 : List Nat := [0, 0, 0, 0, 14, 0, 62, 126, 254, 510, 1023, 2047]
theorem impl_PlayState.tab6 : rtab .any (opsOf Tryd.f19 6) = impl_PlayState.T6 := by kernel_rfl
theorem impl_PlayState.bits6 : waitsOk impl_PlayState.T6.2 impl_PlayState.B6 = true := by kernel_rfl
set_option maxHeartbeats 8000000 in
set_option maxRecDepth 100000 in
theorem impl_PlayState.calls (k : Nat) (a0_0 : Int) (A0_1 : Option Addr) (c0_1 : Nat) (l0_1 : List (List Int)) (a1 : ByteArray) (a2 : Bool) (r1 : ByteArray) (r2 : Int) (w : World) (hr0_1 : Kd.C (Kd.slice 2 (Kd.int .i64)) w A0_1 l0_1.length l0_1) (hc0_1 : l0_1.length ≤ c0_1) (h : impl_PlayState.f k a0_0 l0_1 a1 a2 = some (r1, r2)) :
    Calls Tryd.prog 19 #[.agg #[.int .i64 a0_0, .slice A0_1 l0_1.length c0_1], .string a1, .bool a2] w fun e w' => e = .returned (.tuple #[.string r1, .int .i64 r2]) ∧ Below w.heap.size w w' := by
  unfold impl_PlayState.f at h
  obtain ⟨code, hcd, h⟩ := Option.bind_eq_some_iff.1 h
  have HCD := Aside0.mk hcd
  have HB := Aside0.mk (Below.refl w.heap.size w)
  have HR := Aside0.mk hr0_1
  have HC0 := Aside0.mk hc0_1
  have hu := Tryd.underlying28
  have hu2 := Tryd.underlying64
  clear hcd
  by_cases hc0 : code = 0
  · rw [if_pos hc0] at h
    have hcz : (code != 0) = false := bne_eq_false_iff_eq.mpr hc0
    by_cases hv : isNetV a0_0 l0_1 = true ∧ a1.size = l0_1.length
    case neg => rw [if_neg hv] at h; cases h
    rw [if_pos hv] at h
    obtain ⟨hv, hs⟩ := hv
    have hl := (netEdges hv).1.1
    have hfl : (freeV a1).length ≤ a1.size := chosenTo_le _ _
    have HV := Aside0.mk hv
    have HSS := Aside0.mk hs
    have HFL := Aside0.mk (show (freeV a1).length ≤ 10 by omega)
    clear hc0 hv hs hl hfl hr0_1 hc0_1
    obtain ⟨r, hpl, h⟩ := Option.bind_eq_some_iff.1 h
    simp only [Option.some.injEq, Prod.mk.injEq] at h
    obtain ⟨rfl, rfl⟩ := h
    have HPL := Aside0.mk hpl
    have HL10 := Aside0.mk (netEdges HV.out).1.1
    clear hpl HFL
    go_enter Tryd.func19, Tryd.ntmps19
    go_wp2_with (first | ((with_reducible refine gate_dst (N := 3) rfl ?_); refine box_event ?hg (N := 3) ?hd (cs := #[.int .i64 a0_0, .slice A0_1 l0_1.length c0_1]) (t := 28) ?hr ?_; (case hd => rfl); (case hg => rfl); (case hr => first | (go_simp; done) | (go_simp; rfl)); intro g3 hg_ w_ hbox hb; have HX3 := Aside0.mk hbox; have HG3 := Aside0.mk (show w.heap.size ≤ g3 by have := below_size HB.out; omega); clear hbox hg_; have nHB_ := Aside0.mk (below_step HB.out hb); clear HB hb; have HB := nHB_; clear nHB_; have hc30 := (blk_cell HX3.out 0).trans rfl; have hc31 := (blk_cell HX3.out 1).trans rfl) | (go_at_call 35; refine (impl_stateOfCode.calls k a0_0 A0_1 c0_1 l0_1 a1 code _ (Kd.C_below HR.out HB.out) HC0.out HCD.out).mono ?_; rintro e w_ ⟨rfl, hb⟩; (try clear hc30); (try clear hc31); have nHB_ := Aside0.mk (below_step HB.out hb); have nHX3_ := Aside0.mk (blk_below HX3.out hb); clear HB HX3 hb; have HB := nHB_; have HX3 := nHX3_; clear nHB_ nHX3_; have hc30 := (blk_cell HX3.out 0).trans rfl; have hc31 := (blk_cell HX3.out 1).trans rfl) | (go_at_call 41; obtain ⟨wz, hwz⟩ : ∃ wz, wz = w_ := ⟨_, rfl⟩; rw [← hwz] at HB HX3 ⊢; have HRW := Aside0.mk (Kd.C_below HR.out HB.out); have HBW := HB; have HX30 := HX3; (try clear hc30); (try clear hc31); refine (impl_Net_winners.calls a0_0 A0_1 c0_1 l0_1 _).mono ?_; rintro e wa_ ⟨gK, gX, gF, gm, rfl, hE⟩; have HE := Aside0.mk hE; clear hE hwz HB HX3) | ((with_reducible refine gate_dst (N := 10) rfl ?_); refine box_event ?hg (N := 10) ?hd (cs := #[.string ⟨#[]⟩, .bool false]) (t := 64) ?hr ?_; (case hd => rfl); (case hg => rfl); (case hr => first | (go_simp; done) | (go_simp; rfl)); intro g10 hg_ wx_ hbox hb; have HX1a := Aside0.mk hbox; have HGT := Aside0.mk (show gK < g10 ∧ gX < g10 ∧ gF < g10 ∧ gm < g10 ∧ wz.heap.size ≤ g10 by have := blk_lt HE.out.hk; have := blk_lt HE.out.hx; have := blk_lt HE.out.hf; have := HE.out.memo.lt; have := HE.out.below.size; omega); have HEa := Aside0.mk (HE.out.step hb); clear hbox hg_ hb HE) | ((with_reducible refine gate_store (t := 64) (p := 10) rfl ?_); refine row_event rfl 64 10 (.tmp 21) rfl rfl g10 #[.string a1, .bool a2] (by rfl) (by rfl) 64 _ HX1a.out infoTurn rfl (by first | rfl | (simp [Value.oneCell']; done) | decide) ?_; have HX10 := Aside0.mk (setRow_heap _ g10 _ #[.string a1, .bool a2] _ _ HX1a.out); have HE := Aside0.mk (HEa.out.grownR (grown_setRow _ g10 #[.string a1, .bool a2]) g10 (fun k e => Nat.le_of_eq (Option.some.inj e)) HGT.out); clear HX1a HEa))
    go_loopg [26] 10 (fun kq _ wr => ∃ (s : ByteArray) (b : Bool) (N : Nat), Aside0 (playV l0_1 kq s b = some r) ∧ Aside0 (kq ≤ 10) ∧ Aside0 (s.size = l0_1.length) ∧ Aside0 (N + kq * (20 * winCnt 10) + 20 * winCnt 10 < maxLen) ∧ Aside0 (WinEnv wz gK gX gF gm a0_0 A0_1 c0_1 l0_1 N wr) ∧ Aside0 (wr.heap[g10]? = some (.cells #[.string s, .bool b] 64 (0, 0))))
    case atStart => exact ⟨a1, a2, 0, HPL, ⟨Nat.le_refl _⟩, HSS, ⟨by have := winCnt_play; omega⟩, HE, HX10⟩
    case round =>
      clear HPL HSS HE HX10
      obtain ⟨s, b, N, HPL, HK, HSS, HNB, HE, HX10⟩ := hrel
      have hov : impl_Net_over.f a0_0 l0_1 s = some (ovV l0_1 s) := by unfold impl_Net_over.f; rw [if_pos ⟨HV.out, HSS.out⟩]
      obtain ⟨ov, hove⟩ : ∃ ov, ovV l0_1 s = ov := ⟨_, rfl⟩
      rw [hove] at hov
      have HOV := Aside0.mk hov
      have HB := Aside0.mk (below_step HBW.out HE.out.below)
      have HX3 := Aside0.mk (blk_below HX30.out HE.out.below)
      have HRC := Aside0.mk (Kd.C_below HRW.out HE.out.below)
      have hc30 := (blk_cell HX3.out 0).trans rfl
      have hc31 := (blk_cell HX3.out 1).trans rfl
      have hc100 := (blk_cell HX10.out 0).trans rfl
      clear hov
      by_cases h0 : ov = 0
      · have hoz : (ov == 0) = true := beq_iff_eq.mpr h0
        have hoz2 : (ov != 0) = false := bne_eq_false_iff_eq.mpr h0
        have HP0 := HPL.out
        cases gk with
        | zero =>
          rw [playV, if_pos (hove.trans h0)] at HP0
          cases HP0
        | succ k1 =>
          rw [playV, if_pos (hove.trans h0)] at HP0
          obtain ⟨L, hL⟩ : ∃ L, bestV l0_1 s b ++ freeV s = L := ⟨_, rfl⟩
          have hmem : L ≠ [] → rd L 0 ∈ freeV s := fun hne => by have h2 := rd_mem0 hne; rw [← hL] at h2 ⊢; exact bestV_sub h2
          rw [hL] at HP0
          by_cases hLn : L = []
          · rw [if_pos hLn] at HP0; cases HP0
          rw [if_neg hLn] at HP0
          have hx := hmem hLn
          obtain ⟨x0, x1, _⟩ := mem_chosenTo.1 hx
          have hsz := HSS.out
          have hl10 := HL10.out
          have hav := after_val s b (rd L 0) x0 x1 (by omega)
          have hsz2 : (afterV s (rd L 0) b).size = l0_1.length := by
            obtain ⟨j, hj⟩ : ∃ j : Nat, rd L 0 = (j : Int) := ⟨(rd L 0).toNat, by omega⟩
            rw [hj] at x1 ⊢
            rw [afterV_size s j b (by omega), hsz]
          have hfl : (freeV s).length ≤ s.size := chosenTo_le _ _
          have hfr : impl_turn_open.f s b = some (freeV s) := by unfold impl_turn_open.f; rw [if_pos (by omega)]
          have HFR := Aside0.mk hfr
          have HFL := Aside0.mk (show (freeV s).length ≤ 10 by omega)
          have HBL := Aside0.mk (bestV_len l0_1 s b)
          have HLN := Aside0.mk (List.length_pos_iff.2 hLn)
          have HLE := Aside0.mk hL
          generalize hs' : afterV s (rd L 0) b = s' at hav HP0 hsz2
          generalize hb' : (!b) = b' at hav HP0
          have HAV := Aside0.mk hav
          have HSZ2 := Aside0.mk hsz2
          have HPL2 := Aside0.mk HP0
          clear hmem hLn hx x0 x1 hsz hl10 hav hsz2 hfl hfr hL hs' hb' HP0 h0 hove HPL
          go_wp2_with (first | (go_at_call 36; refine (impl_Net_over.calls a0_0 A0_1 c0_1 l0_1 s ov _ HRC.out HC0.out HOV.out).mono ?_; rintro e w_ ⟨rfl, hb⟩; (try clear hc30); (try clear hc31); (try clear hc100); have HE1 := Aside0.mk (HE.out.step hb); have HX11 := Aside0.mk (blk_below HX10.out hb); have nHB_ := Aside0.mk (below_step HB.out hb); have nHX3_ := Aside0.mk (blk_below HX3.out hb); clear hb HE HX10 HB HX3 HRC; have HB := nHB_; have HX3 := nHX3_; clear nHB_ nHX3_; have hc110 := (blk_cell HX11.out 0).trans rfl; have hc111 := (blk_cell HX11.out 1).trans rfl))
          have n1_ := Aside0.mk (blk_drew HX3.out)
          have n2_ := Aside0.mk (blk_drew HX11.out)
          have n3_ := Aside0.mk HE1.out.drew
          clear HX3 HX11 HE1 HB
          (try clear hc110)
          (try clear hc111)
          refine start_ (n := 12) (S := fun w' => w'.cell? ⟨g3, 0, none⟩ = some (.int .i64 a0_0) ∧ w'.cell? ⟨g3, 1, none⟩ = some (.slice A0_1 l0_1.length c0_1) ∧ w'.cell? ⟨g10, 0, none⟩ = some (.string s) ∧ w'.cell? ⟨g10, 1, none⟩ = some (.bool b)) (ds := [11]) #[false, false, false, false, false, false, false, false, false, false, false, false] (by kernel_rfl) rfl rfl ⟨(blk_cell n1_.out 0).trans rfl, (blk_cell n1_.out 1).trans rfl, (blk_cell n2_.out 0).trans rfl, (blk_cell n2_.out 1).trans rfl⟩ (fun hHeld => ?_)
          refine with_tabW impl_PlayState.tab6 impl_PlayState.bits6 (fun HT_ HW_ => ?_)
          generalize hq_ : w_.drew = wd_ at n1_ n2_ n3_ hHeld ⊢
          clear hq_
          refine take_ (i := 0) (N := some 27) (v := ?_) (a' := ?_) #[true, false, false, false, false, false, false, false, false, false, false, false] rfl rfl (take_ofW HT_.out HW_.out (by kernel_rfl)) (fun _ _ _ h => h) (Or.inl ⟨by rfl, ?_⟩) hHeld ?_ ?_
          rotate_left
          · rintro w' ⟨s0_, s1_, s2_, s3_⟩
            go_simp
            with_reducible rfl
          rotate_left
          · simp only [Act.put, List.setIfInBounds_toArray, List.set_cons_zero, List.set_cons_succ, i64_w, i32_w]
            rfl
          refine take_ (i := 1) (N := some 28) (v := ?_) (a' := ?_) #[true, true, false, false, false, false, false, false, false, false, false, false] rfl rfl (take_ofW HT_.out HW_.out (by kernel_rfl)) (fun _ _ _ h => h) (Or.inl ⟨by rfl, ?_⟩) hHeld ?_ ?_
          rotate_left
          · rintro w' ⟨s0_, s1_, s2_, s3_⟩
            go_simp
            with_reducible rfl
          rotate_left
          · simp only [Act.put, List.setIfInBounds_toArray, List.set_cons_zero, List.set_cons_succ, i64_w, i32_w]
            rfl
          refine take_ (i := 2) (N := some 29) (v := ?_) (a' := ?_) #[true, true, true, false, false, false, false, false, false, false, false, false] rfl rfl (take_ofW HT_.out HW_.out (by kernel_rfl)) (fun _ _ _ h => h) (Or.inl ⟨by rfl, ?_⟩) hHeld ?_ ?_
          rotate_left
          · rintro w' ⟨s0_, s1_, s2_, s3_⟩
            go_simp
            with_reducible rfl
          rotate_left
          · simp only [Act.put, List.setIfInBounds_toArray, List.set_cons_zero, List.set_cons_succ, i64_w, i32_w]
            rfl
          refine pure_ (i := 3) (N := some 30) (v := ?_) (a' := ?_) #[true, true, true, true, false, false, false, false, false, false, false, false] rfl rfl (any_of HT_.out (by kernel_rfl)) (fun _ _ _ h => h) (Or.inl ⟨by rfl, ?_⟩) ?_ ?_
          rotate_left
          · intro w'
            go_simp
            with_reducible rfl
          rotate_left
          · simp only [Act.put, List.setIfInBounds_toArray, List.set_cons_zero, List.set_cons_succ, i64_w, i32_w]
            rfl
          refine take_ (i := 5) (N := some 32) (v := ?_) (a' := ?_) #[true, true, true, true, false, true, false, false, false, false, false, false] rfl rfl (take_ofW HT_.out HW_.out (by kernel_rfl)) (fun _ _ _ h => h) (Or.inl ⟨by rfl, ?_⟩) hHeld ?_ ?_
          rotate_left
          · rintro w' ⟨s0_, s1_, s2_, s3_⟩
            go_simp
            with_reducible rfl
          rotate_left
          · simp only [Act.put, List.setIfInBounds_toArray, List.set_cons_zero, List.set_cons_succ, i64_w, i32_w]
            rfl
          refine one_ (i := 4) (N := some 31) #[true, true, true, true, true, true, false, false, false, false, false, false] rfl rfl (one_of HT_.out (by kernel_rfl)) (by decide) (fun K hK => ?_)
          refine goes_ Tryd.func47 (by kernel_rfl) rfl #[.agg #[.int .i64 a0_0, .slice A0_1 l0_1.length c0_1], .agg #[.string s, .bool b], .func (.func 64) #[] #[.pointer (some ⟨gK, 0, none⟩), .pointer (some ⟨gX, 0, none⟩), .pointer (some ⟨gF, 0, none⟩)]] (by rfl) rfl rfl (by (try simp only [List.map_toArray, List.map_cons, List.map_nil]); first | done | rfl) ?_
          refine (impl_Net_best.calls wz gK gX gF gm a0_0 A0_1 c0_1 l0_1 HV.out HRW.out HC0.out s b N wd_ HSS.out n3_.out (by have := HNB.out; omega)).mono ?_
          rintro e wb_ ⟨v31, rfl, ho, hE2, hG2⟩
          refine ⟨_, rfl, ?_⟩
          have HLT := Aside0.mk (show g3 < gm ∧ g10 ≠ gm ∧ wd_.heap.size ≤ wb_.heap.size ∧ g10 < wd_.heap.size ∧ g3 < wd_.heap.size by have := blk_lt HX30.out; have := n3_.out.base; have := HGT.out; have := hG2.size; have := blk_lt n1_.out; have := blk_lt n2_.out; omega)
          have m1_ := Aside0.mk (blk_grownB n1_.out hG2 (by have := HLT.out; omega))
          have m2_ := Aside0.mk (blk_grownB n2_.out hG2 HLT.out.2.1)
          have m3_ := Aside0.mk hE2
          have m4_ := Aside0.mk ho
          clear ho hE2 hG2 n1_ n2_ n3_
          refine hK.out _ _ ⟨(blk_cell m1_.out 0).trans rfl, (blk_cell m1_.out 1).trans rfl, (blk_cell m2_.out 0).trans rfl, (blk_cell m2_.out 1).trans rfl⟩ (fun hHeld => ?_)
          clear hK K
          refine norm_ (a' := ?_) ?_ ?_
          rotate_left
          · show Act.put _ (some 31) _ = _
            simp only [Act.put, List.setIfInBounds_toArray, List.set_cons_zero, List.set_cons_succ, i64_w, i32_w]
            rfl
          refine one_ (i := 6) (N := some 33) #[true, true, true, true, true, true, true, false, false, false, false, false] rfl rfl (one_of HT_.out (by kernel_rfl)) (by decide) (fun K hK => ?_)
          refine goes_ Tryd.func49 (by kernel_rfl) rfl #[.agg #[.string s, .bool b]] (by rfl) rfl rfl (by (try simp only [List.map_toArray, List.map_cons, List.map_nil]); first | done | rfl) ?_
          refine (impl_turn_open.calls s b (freeV s) _ HFR.out).mono ?_
          rintro e wc_ ⟨v33, rfl, ho, hb⟩
          refine ⟨_, rfl, ?_⟩
          have p1_ := Aside0.mk (blk_below m1_.out hb)
          have p2_ := Aside0.mk (blk_below m2_.out hb)
          have p3_ := Aside0.mk (m3_.out.step hb)
          have p4_ := Aside0.mk (Kd.R_below m4_.out hb)
          have p5_ := Aside0.mk ho
          have p6_ := Aside0.mk (pw_below_grown (Below.refl wd_.heap.size wb_) none HLT.out.2.2.1 (grown_of_below hb none) (fun k e => by cases e))
          have p7_ := Aside0.mk (Nat.le_trans HLT.out.2.2.1 (below_size hb))
          clear ho hb m1_ m2_ m3_ m4_
          obtain ⟨A33, c33, e33⟩ := Kd.R_slice p5_.out
          subst e33
          refine hK.out _ _ ⟨(blk_cell p1_.out 0).trans rfl, (blk_cell p1_.out 1).trans rfl, (blk_cell p2_.out 0).trans rfl, (blk_cell p2_.out 1).trans rfl⟩ (fun hHeld => ?_)
          clear hK K
          refine norm_ (a' := ?_) ?_ ?_
          rotate_left
          · show Act.put _ (some 33) _ = _
            simp only [Act.put, List.setIfInBounds_toArray, List.set_cons_zero, List.set_cons_succ, i64_w, i32_w]
            rfl
          refine one_ (i := 7) (N := some 34) #[true, true, true, true, true, true, true, true, false, false, false, false] rfl rfl (one_of HT_.out (by kernel_rfl)) (by decide) (fun K hK => ?_)
          refine Kd.R_append_rows_step (Kd.int .i64) (w0 := wb_) wd_.heap.size (by rfl) (.tmp 31) (.tmp 33) 38 2 (.int .i64 0) 8 rfl Tryd.underlying38 info2 rfl (by decide) (by omega) v31 (bestV l0_1 s b) (freeV s) _ _ _ (fun _ => True) (fun _ => False) rfl rfl p4_.out (Kd.R_reads' p5_.out).2.2 (fun _ _ h => h) (fun _ h => h.elim) (fun _ _ => trivial) p6_.out p7_.out (by have := HFL.out; have := HBL.out; omega) ?_
          intro v34 w34 ho hb hg hat
          rw [HLE.out] at ho
          have q1_ := Aside0.mk (blk_grown p1_.out hg (Kd.R_ne p4_.out p1_.out (by decide)))
          have q2_ := Aside0.mk (blk_grown p2_.out hg (Kd.R_ne p4_.out p2_.out (by decide)))
          have q3_ := Aside0.mk (p3_.out.grownR hg wd_.heap.size (fun k e => (Kd.R_bound p4_.out).1 k e |>.2.1) (by have := HGT.out; have := HLT.out; omega))
          have q4_ := Aside0.mk ho
          clear ho hb hg hat p1_ p2_ p3_ p4_ p5_ p6_ p7_
          obtain ⟨A34, c34, e34⟩ := Kd.R_slice q4_.out
          subst e34
          have qi : (0 : Int) < (L.length : Int) := by have := HLN.out; omega
          obtain ⟨ad34, e34, hx34⟩ := Kd.at_int (Kd.R_reads' q4_.out).2.2 0 (by omega) qi
          cases e34
          (try rw [show ((0 : Int)).toNat = 0 from rfl] at hx34)
          (try rw [Addr.add_zero'] at hx34)
          have qj := eq_true HLN.out
          replace qi := eq_true qi
          refine hK.out _ _ ⟨(blk_cell q1_.out 0).trans rfl, (blk_cell q1_.out 1).trans rfl, (blk_cell q2_.out 0).trans rfl, (blk_cell q2_.out 1).trans rfl⟩ (fun hHeld => ?_)
          clear hK K
          refine norm_ (a' := ?_) ?_ ?_
          rotate_left
          · show Act.put _ (some 34) _ = _
            simp only [Act.put, List.setIfInBounds_toArray, List.set_cons_zero, List.set_cons_succ, i64_w, i32_w]
            rfl
          refine pure_ (i := 8) (N := some 35) (v := ?_) (a' := ?_) #[true, true, true, true, true, true, true, true, true, false, false, false] rfl rfl (any_of HT_.out (by kernel_rfl)) (fun _ _ _ h => h) (Or.inl ⟨by rfl, ?_⟩) ?_ ?_
          rotate_left
          · intro w'
            go_simp
            with_reducible rfl
          rotate_left
          · simp only [Act.put, List.setIfInBounds_toArray, List.set_cons_zero, List.set_cons_succ, i64_w, i32_w]
            rfl
          refine one_ (i := 9) (N := some 36) #[true, true, true, true, true, true, true, true, true, true, false, false] rfl rfl (one_of HT_.out (by kernel_rfl)) (by decide) (fun K hK => ?_)
          refine val_step (by rfl) (N := some 36) rfl (.int .i64 (rd L 0)) (by first | (go_simp; done) | (go_simp; rfl)) ?_
          refine hK.out _ _ hHeld (fun hHeld => ?_)
          clear hK K
          refine norm_ (a' := ?_) ?_ ?_
          rotate_left
          · show Act.put _ (some 36) _ = _
            simp only [Act.put, List.setIfInBounds_toArray, List.set_cons_zero, List.set_cons_succ, i64_w, i32_w]
            rfl
          refine one_ (i := 10) (N := some 37) #[true, true, true, true, true, true, true, true, true, true, true, false] rfl rfl (one_of HT_.out (by kernel_rfl)) (by decide) (fun K hK => ?_)
          refine goes_ Tryd.func48 (by kernel_rfl) rfl #[.agg #[.string s, .bool b], .int .i64 (rd L 0)] (by rfl) rfl rfl (by (try simp only [List.map_toArray, List.map_cons, List.map_nil]); first | done | rfl) ?_
          refine (impl_turn_after.calls s b (rd L 0) s' b' _ HAV.out).mono ?_
          rintro e wf_ ⟨rfl, hb⟩
          refine ⟨_, rfl, ?_⟩
          have r1_ := Aside0.mk (blk_below q1_.out hb)
          have r2_ := Aside0.mk (blk_below q2_.out hb)
          have r3_ := Aside0.mk (q3_.out.step hb)
          clear hb q1_ q2_ q3_ q4_ hx34
          refine hK.out _ _ ⟨(blk_cell r1_.out 0).trans rfl, (blk_cell r1_.out 1).trans rfl, (blk_cell r2_.out 0).trans rfl, (blk_cell r2_.out 1).trans rfl⟩ (fun hHeld => ?_)
          clear hK K
          refine norm_ (a' := ?_) ?_ ?_
          rotate_left
          · show Act.put _ (some 37) _ = _
            simp only [Act.put, List.setIfInBounds_toArray, List.set_cons_zero, List.set_cons_succ, i64_w, i32_w]
            rfl
          refine last_ (i := 11) (N := none) #[true, true, true, true, true, true, true, true, true, true, true, true] rfl rfl (one_of HT_.out (by kernel_rfl)) (by decide) (fun K hK => ?_)
          refine row_step (by rfl) 64 10 (.tmp 37) rfl rfl g10 #[.string s', .bool b'] (by rfl) (by rfl) 64 _ r2_.out infoTurn rfl (by first | rfl | (simp [Value.oneCell']; done) | decide) ?_
          have HX19 := Aside0.mk (setRow_heap _ g10 _ #[.string s', .bool b'] _ _ r2_.out)
          have HE9 := Aside0.mk (r3_.out.grownR (grown_setRow _ g10 #[.string s', .bool b']) g10 (fun k e => Nat.le_of_eq (Option.some.inj e)) HGT.out)
          clear r1_ r2_ r3_
          refine hK.out _ _ ?_
          clear hK K
          refine norm_ (a' := ?_) ?_ ?_
          rotate_left
          · show Act.put _ none _ = _
            rfl
          refine done_ (done_of HT_.out (by kernel_rfl)) ?_
          go_wp2_with fail
          go_roundg k1
          case measure => have := HK.out; omega
          case rel => exact ⟨s', b', N + 20 * winCnt 10, HPL2, ⟨by have := HK.out; omega⟩, HSZ2, ⟨by have := HNB.out; have e : (k1 + 1) * (20 * winCnt 10) = k1 * (20 * winCnt 10) + 20 * winCnt 10 := Nat.succ_mul _ _; omega⟩, HE9, HX19⟩
      · have hoz : (ov == 0) = false := beq_eq_false_iff_ne.mpr h0
        have hoz2 : (ov != 0) = true := bne_iff_ne.mpr h0
        have hr : r = s := by
          have HP0 := HPL.out
          cases gk with
          | zero => rw [playV, if_neg (fun h => h0 (hove.symm.trans h))] at HP0; exact (Option.some.inj HP0).symm
          | succ k1 => rw [playV, if_neg (fun h => h0 (hove.symm.trans h))] at HP0; exact (Option.some.inj HP0).symm
        clear hove HPL h0
        go_wp2_with (first | (go_at_call 36; refine (impl_Net_over.calls a0_0 A0_1 c0_1 l0_1 s ov _ HRC.out HC0.out HOV.out).mono ?_; rintro e w_ ⟨rfl, hb⟩; (try clear hc30); (try clear hc31); (try clear hc100); have HE1 := Aside0.mk (HE.out.step hb); have HX11 := Aside0.mk (blk_below HX10.out hb); have nHB_ := Aside0.mk (below_step HB.out hb); have nHX3_ := Aside0.mk (blk_below HX3.out hb); clear hb HE HX10 HB HX3 HRC; have HB := nHB_; have HX3 := nHX3_; clear nHB_ nHX3_; have hc110 := (blk_cell HX11.out 0).trans rfl; have hc111 := (blk_cell HX11.out 1).trans rfl))
        go_ret2
        exact ⟨by rw [hr]; rfl, HB.out⟩
  · rw [if_neg hc0] at h
    simp only [Option.some.injEq, Prod.mk.injEq] at h
    obtain ⟨rfl, rfl⟩ := h
    have hcz : (code != 0) = true := bne_iff_ne.mpr hc0
    clear hc0
    go_enter Tryd.func19, Tryd.ntmps19
    go_wp2_with (first | ((with_reducible refine gate_dst (N := 3) rfl ?_); refine box_event ?hg (N := 3) ?hd (cs := #[.int .i64 a0_0, .slice A0_1 l0_1.length c0_1]) (t := 28) ?hr ?_; (case hd => rfl); (case hg => rfl); (case hr => first | (go_simp; done) | (go_simp; rfl)); intro g3 hg_ w_ hbox hb; have HX3 := Aside0.mk hbox; have HG3 := Aside0.mk (show w.heap.size ≤ g3 by have := below_size HB.out; omega); clear hbox hg_; have nHB_ := Aside0.mk (below_step HB.out hb); clear HB hb; have HB := nHB_; clear nHB_; have hc30 := (blk_cell HX3.out 0).trans rfl; have hc31 := (blk_cell HX3.out 1).trans rfl) | (go_at_call 35; refine (impl_stateOfCode.calls k a0_0 A0_1 c0_1 l0_1 a1 code _ (Kd.C_below HR.out HB.out) HC0.out HCD.out).mono ?_; rintro e w_ ⟨rfl, hb⟩; (try clear hc30); (try clear hc31); have nHB_ := Aside0.mk (below_step HB.out hb); have nHX3_ := Aside0.mk (blk_below HX3.out hb); clear HB HX3 hb; have HB := nHB_; have HX3 := nHX3_; clear nHB_ nHX3_; have hc30 := (blk_cell HX3.out 0).trans rfl; have hc31 := (blk_cell HX3.out 1).trans rfl))
    go_ret2
    exact ⟨rfl, HB.out⟩
theorem S_ltN {α : Type} {d : Kd α} {e base n : Nat} {w : World} {ok : Nat → Prop} {v : Value} {xs : List α} (h : Kd.S d e w base ok v xs) (hn : n = w.heap.size) : Kd.S d e w base (fun k => ok k ∧ k < n) v xs := Kd.S_mono (Kd.S_bound h) (fun _ hk => ⟨hk.1, by rw [hn]; exact hk.2.2.1⟩)
theorem S_geN {α : Type} {d : Kd α} {e n base : Nat} {w : World} {ok : Nat → Prop} {v : Value} {xs : List α} (h : Kd.S d e w base ok v xs) (hn : n = base) : Kd.S d e w base (fun k => ok k ∧ n ≤ k) v xs := Kd.S_mono (Kd.S_bound h) (fun _ hk => ⟨hk.1, by rw [hn]; exact hk.2.1⟩)
theorem nq_of {W w1 : World} (_hb : Below W.heap.size W w1) : ∃ n : Nat, n = W.heap.size := ⟨_, rfl⟩
/-! ### laws_FnExactPlayState: function 6 -/
def laws_FnExactPlayState.j0 : Nat → Bool → Int → List (List Int) → Int → List (List Int) → Option (Bool)
 | 0, _, _, _, _, _ => none
 | k + 1, x45, x318000, x318001, x330000, x330001 => if x45 = true then (some false) else ((laws_toNet.f k x318000 x318001).bind fun bt332 => ((laws_eqNet.f k x330000 x330001 bt332.1 bt332.2).bind fun t336 => (if t336 = true then (some true) else (some false))))
def laws_FnExactPlayState.f (k : Nat) (a0_0 : Int) (l0_1 : List (List Int)) (a1 : ByteArray) (a2 : Bool) : Option (Bool) := if (a1.size : Int) > 1048576 then (some true) else ((laws_szNet.f k a0_0 l0_1 1048576).bind fun t318 => (if t318 < 0 then (some true) else ((laws_toNet.f k a0_0 l0_1).bind fun bt319 => ((spec_PlayState.f k bt319.1 bt319.2 a1 a2).bind fun bt323 => ((laws_toNet.f k a0_0 l0_1).bind fun bt325 => ((impl_PlayState.f k bt325.1 bt325.2 a1 a2).bind fun bt330 => (if bt330.1.toList = bt323.1.toList then (laws_FnExactPlayState.j0 k (bt330.2 != bt323.2) a0_0 l0_1 bt325.1 bt325.2) else (laws_FnExactPlayState.j0 k true a0_0 l0_1 bt325.1 bt325.2))))))))
set_option maxHeartbeats 8000000 in
set_option maxRecDepth 100000 in
theorem laws_FnExactPlayState.calls (k : Nat) (a0_0 : Int) (A0_1 : Option Addr) (c0_1 : Nat) (l0_1 : List (List Int)) (a1 : ByteArray) (a2 : Bool) (r : Bool) (w : World) (hr0_1 : Kd.C (Kd.slice 2 (Kd.int .i64)) w A0_1 l0_1.length l0_1) (hc0_1 : l0_1.length ≤ c0_1) (h : laws_FnExactPlayState.f k a0_0 l0_1 a1 a2 = some true) :
  Calls Tryd.prog 6 #[.agg #[.int .i64 a0_0, .slice A0_1 l0_1.length c0_1], .string a1, .bool a2] w fun e w' => e = .returned (.bool true) ∧ Below w.heap.size w w' := by
 have hu24 := Tryd.underlying24
 have hu28 := Tryd.underlying28
 have HR0_1 := Aside0.mk hr0_1
 have HC0_1 := Aside0.mk hc0_1
 clear hr0_1 hc0_1
 have HB := Aside0.mk (Below.refl w.heap.size w)
 have H : (if (a1.size : Int) > 1048576 then (some true) else ((laws_szNet.f k a0_0 l0_1 1048576).bind fun t318 => (if t318 < 0 then (some true) else ((laws_toNet.f k a0_0 l0_1).bind fun bt319 => ((spec_PlayState.f k bt319.1 bt319.2 a1 a2).bind fun bt323 => ((laws_toNet.f k a0_0 l0_1).bind fun bt325 => ((impl_PlayState.f k bt325.1 bt325.2 a1 a2).bind fun bt330 => (if bt330.1.toList = bt323.1.toList then (laws_FnExactPlayState.j0 k (bt330.2 != bt323.2) a0_0 l0_1 bt325.1 bt325.2) else (laws_FnExactPlayState.j0 k true a0_0 l0_1 bt325.1 bt325.2))))))))) = some true := h
 clear h
 by_cases c4 : (a1.size : Int) > 1048576
 ·rw [if_pos c4] at H
  have c4b0 : decide (1048576 < (a1.size : Int)) = true := decide_eq_true c4
  have c4b1 : decide (1048576 < a1.size) = true := decide_eq_true (by omega)
  clear c4
  clear H
  go_enter Tryd.func6, Tryd.ntmps6
  go_wp2_with (first | ((with_reducible refine gate_dst (N := 3) rfl ?_); refine box_event ?hg (N := 3) ?hd (cs := #[.int .i64 a0_0, .slice A0_1 l0_1.length c0_1]) (t := 24) ?hr ?_; (case hd => rfl); (case hg => rfl); (case hr => first | (go_simp; done) | (go_simp; rfl)); intro gb317 hg w5 hbox hb; have n0_ := Aside0.mk (below_step hb_ hb); have n1_ := Aside0.mk (hbox); have n2_ := Aside0.mk ((by rw [hg]; exact (below_size hb_) : w.heap.size ≤ gb317)); have n3_ := Aside0.mk ((by rw [hg]; exact (below_size hb_) : w.heap.size ≤ gb317)); clear HB; have HB := n0_; have BK317 := n1_; have GW317 := n2_; have GE317 := n3_; clear n0_ n1_ n2_ n3_; clear hb hbox hg))
  go_ret
  exact ⟨by first | rfl | (simp [errW_none, errW_some] <;> rfl) | (simp [*, errW_none, errW_some] <;> rfl), by repeat (first | (with_reducible first | exact HB.out | apply below_alloc | apply pw_below_drewN | apply below_drew1 | refine below_set ?_ GE317.out) | exact HB.out)⟩
 ·rw [if_neg c4] at H
  have c4b0 : decide (1048576 < (a1.size : Int)) = false := decide_eq_false c4
  have c4b1 : decide (1048576 < a1.size) = false := decide_eq_false (by omega)
  clear c4
  replace H := Option.bind_eq_some_iff.mp H
  obtain ⟨t318, A60, H⟩ := H
  replace H : (if t318 < 0 then (some true) else ((laws_toNet.f k a0_0 l0_1).bind fun bt319 => ((spec_PlayState.f k bt319.1 bt319.2 a1 a2).bind fun bt323 => ((laws_toNet.f k a0_0 l0_1).bind fun bt325 => ((impl_PlayState.f k bt325.1 bt325.2 a1 a2).bind fun bt330 => (if bt330.1.toList = bt323.1.toList then (laws_FnExactPlayState.j0 k (bt330.2 != bt323.2) a0_0 l0_1 bt325.1 bt325.2) else (laws_FnExactPlayState.j0 k true a0_0 l0_1 bt325.1 bt325.2))))))) = some true := H
  have A6 := Aside0.mk A60
  clear A60
  by_cases c7 : t318 < 0
  ·rw [if_pos c7] at H
   have c7b0 : decide (t318 < 0) = true := decide_eq_true c7
   clear c7
   clear H
   go_enter Tryd.func6, Tryd.ntmps6
   go_wp2_with (first | ((with_reducible refine gate_dst (N := 3) rfl ?_); refine box_event ?hg (N := 3) ?hd (cs := #[.int .i64 a0_0, .slice A0_1 l0_1.length c0_1]) (t := 24) ?hr ?_; (case hd => rfl); (case hg => rfl); (case hr => first | (go_simp; done) | (go_simp; rfl)); intro gb317 hg w8 hbox hb; have n0_ := Aside0.mk (below_step hb_ hb); have n1_ := Aside0.mk (hbox); have n2_ := Aside0.mk ((by rw [hg]; exact (below_size hb_) : w.heap.size ≤ gb317)); have n3_ := Aside0.mk ((by rw [hg]; exact (below_size hb_) : w.heap.size ≤ gb317)); clear HB; have HB := n0_; have BK317 := n1_; have GW317 := n2_; have GE317 := n3_; clear n0_ n1_ n2_ n3_; clear hb hbox hg; have hcz9_0 : w8.cell? ⟨gb317, 0, none⟩ = some (.int .i64 a0_0) := (blk_cell BK317.out 0).trans rfl; have hcz9_1 : w8.cell? ⟨gb317, 1, none⟩ = some (.slice A0_1 l0_1.length c0_1) := (blk_cell BK317.out 1).trans rfl; have hfz9_0 := blk_frozen BK317.out 0; have hfz9_1 := blk_frozen BK317.out 1) | ((with_reducible refine gate_callee (f := 9) rfl ?_); refine goesA_ (some 18) rfl rfl Tryd.func9 (by kernel_rfl) rfl #[.agg #[.int .i64 a0_0, .slice A0_1 l0_1.length c0_1], .int .i64 1048576] rfl ?_; (with_reducible refine (laws_szNet.calls k a0_0 _ _ l0_1 1048576 t318 _ ?side1 ?side2 A6.out).mono ?_); (case side1 => repeat (first | exact (Kd.C_below HR0_1.out HB.out) | (with_reducible refine Kd.C_alloc ?_ _) | (with_reducible refine Kd.C_drewN ?_ _) | (with_reducible refine Kd.C_drew ?_))); (case side2 => exact HC0_1.out); rintro e w10 ⟨rfl, hb⟩; refine ⟨_, rfl, ?_⟩; have n0_ := Aside0.mk (blk_below (g := gb317) (o := .cells #[.int .i64 a0_0, .slice A0_1 l0_1.length c0_1] 24 (0, 0)) (by (with_reducible repeat (first | refine blk_drewN ?_ _ | refine blk_drew ?_ | refine blk_alloc ?_ _)); exact BK317.out) hb); have n1_ := Aside0.mk (below_step (by repeat (first | (with_reducible first | exact HB.out | apply below_alloc | apply pw_below_drewN | apply below_drew1 | refine below_set ?_ GE317.out) | exact HB.out)) hb); clear BK317; clear HB; have BK317 := n0_; have HB := n1_; clear n0_ n1_; (try clear hb); (try clear hb2); (try clear hk); (try clear hi)))
   go_ret
   exact ⟨by first | rfl | (simp [errW_none, errW_some] <;> rfl) | (simp [*, errW_none, errW_some] <;> rfl), by repeat (first | (with_reducible first | exact HB.out | apply below_alloc | apply pw_below_drewN | apply below_drew1 | refine below_set ?_ GE317.out) | exact HB.out)⟩
  ·rw [if_neg c7] at H
   have c7b0 : decide (t318 < 0) = false := decide_eq_false c7
   clear c7
   replace H := Option.bind_eq_some_iff.mp H
   obtain ⟨⟨t319, t320⟩, A110, H⟩ := H
   replace H : ((spec_PlayState.f k t319 t320 a1 a2).bind fun bt323 => ((laws_toNet.f k a0_0 l0_1).bind fun bt325 => ((impl_PlayState.f k bt325.1 bt325.2 a1 a2).bind fun bt330 => (if bt330.1.toList = bt323.1.toList then (laws_FnExactPlayState.j0 k (bt330.2 != bt323.2) a0_0 l0_1 bt325.1 bt325.2) else (laws_FnExactPlayState.j0 k true a0_0 l0_1 bt325.1 bt325.2))))) = some true := H
   have A11 := Aside0.mk A110
   clear A110
   replace H := Option.bind_eq_some_iff.mp H
   obtain ⟨⟨t323, t324⟩, A120, H⟩ := H
   replace H : ((laws_toNet.f k a0_0 l0_1).bind fun bt325 => ((impl_PlayState.f k bt325.1 bt325.2 a1 a2).bind fun bt330 => (if bt330.1.toList = t323.toList then (laws_FnExactPlayState.j0 k (bt330.2 != t324) a0_0 l0_1 bt325.1 bt325.2) else (laws_FnExactPlayState.j0 k true a0_0 l0_1 bt325.1 bt325.2)))) = some true := H
   have A12 := Aside0.mk A120
   clear A120
   replace H := Option.bind_eq_some_iff.mp H
   obtain ⟨⟨t325, t326⟩, A130, H⟩ := H
   replace H : ((impl_PlayState.f k t325 t326 a1 a2).bind fun bt330 => (if bt330.1.toList = t323.toList then (laws_FnExactPlayState.j0 k (bt330.2 != t324) a0_0 l0_1 t325 t326) else (laws_FnExactPlayState.j0 k true a0_0 l0_1 t325 t326))) = some true := H
   have A13 := Aside0.mk A130
   clear A130
   replace H := Option.bind_eq_some_iff.mp H
   obtain ⟨⟨t330, t331⟩, A140, H⟩ := H
   replace H : (if t330.toList = t323.toList then (laws_FnExactPlayState.j0 k (t331 != t324) a0_0 l0_1 t325 t326) else (laws_FnExactPlayState.j0 k true a0_0 l0_1 t325 t326)) = some true := H
   have A14 := Aside0.mk A140
   clear A140
   have HC15 := Aside0.mk H
   clear H
   go_enter Tryd.func6, Tryd.ntmps6
   go_upto_region 10 with (first | ((with_reducible refine gate_dst (N := 3) rfl ?_); refine box_event ?hg (N := 3) ?hd (cs := #[.int .i64 a0_0, .slice A0_1 l0_1.length c0_1]) (t := 24) ?hr ?_; (case hd => rfl); (case hg => rfl); (case hr => first | (go_simp; done) | (go_simp; rfl)); intro gb317 hg w16 hbox hb; have n0_ := Aside0.mk (below_step hb_ hb); have n1_ := Aside0.mk (hbox); have n2_ := Aside0.mk ((by rw [hg]; exact (below_size hb_) : w.heap.size ≤ gb317)); have n3_ := Aside0.mk ((by rw [hg]; exact (below_size hb_) : w.heap.size ≤ gb317)); clear HB; have HB := n0_; have BK317 := n1_; have GW317 := n2_; have GE317 := n3_; clear n0_ n1_ n2_ n3_; clear hb hbox hg; have hcz17_0 : w16.cell? ⟨gb317, 0, none⟩ = some (.int .i64 a0_0) := (blk_cell BK317.out 0).trans rfl; have hcz17_1 : w16.cell? ⟨gb317, 1, none⟩ = some (.slice A0_1 l0_1.length c0_1) := (blk_cell BK317.out 1).trans rfl; have hfz17_0 := blk_frozen BK317.out 0; have hfz17_1 := blk_frozen BK317.out 1) | ((with_reducible refine gate_callee (f := 9) rfl ?_); refine goesA_ (some 18) rfl rfl Tryd.func9 (by kernel_rfl) rfl #[.agg #[.int .i64 a0_0, .slice A0_1 l0_1.length c0_1], .int .i64 1048576] rfl ?_; (with_reducible refine (laws_szNet.calls k a0_0 _ _ l0_1 1048576 t318 _ ?side1 ?side2 A6.out).mono ?_); (case side1 => repeat (first | exact (Kd.C_below HR0_1.out HB.out) | (with_reducible refine Kd.C_alloc ?_ _) | (with_reducible refine Kd.C_drewN ?_ _) | (with_reducible refine Kd.C_drew ?_))); (case side2 => exact HC0_1.out); rintro e w18 ⟨rfl, hb⟩; refine ⟨_, rfl, ?_⟩; have n0_ := Aside0.mk (blk_below (g := gb317) (o := .cells #[.int .i64 a0_0, .slice A0_1 l0_1.length c0_1] 24 (0, 0)) (by (with_reducible repeat (first | refine blk_drewN ?_ _ | refine blk_drew ?_ | refine blk_alloc ?_ _)); exact BK317.out) hb); have n1_ := Aside0.mk (below_step (by repeat (first | (with_reducible first | exact HB.out | apply below_alloc | apply pw_below_drewN | apply below_drew1 | refine below_set ?_ GE317.out) | exact HB.out)) hb); clear BK317; clear HB; have BK317 := n0_; have HB := n1_; clear n0_ n1_; (try clear hb); (try clear hb2); (try clear hk); (try clear hi); have hcz19_0 : w18.cell? ⟨gb317, 0, none⟩ = some (.int .i64 a0_0) := (blk_cell BK317.out 0).trans rfl; have hcz19_1 : w18.cell? ⟨gb317, 1, none⟩ = some (.slice A0_1 l0_1.length c0_1) := (blk_cell BK317.out 1).trans rfl; have hfz19_0 := blk_frozen BK317.out 0; have hfz19_1 := blk_frozen BK317.out 1) | ((with_reducible refine gate_callee (f := 11) rfl ?_); refine goesA_ (some 23) rfl rfl Tryd.func11 (by kernel_rfl) rfl #[.agg #[.int .i64 a0_0, .slice A0_1 l0_1.length c0_1]] rfl ?_; (with_reducible refine (laws_toNet.calls k a0_0 _ _ l0_1 t319 t320 _ ?side1 ?side2 A11.out).mono ?_); (case side1 => repeat (first | exact (Kd.C_below HR0_1.out HB.out) | (with_reducible refine Kd.C_alloc ?_ _) | (with_reducible refine Kd.C_drewN ?_ _) | (with_reducible refine Kd.C_drew ?_))); (case side2 => exact HC0_1.out); rintro e w20 ⟨v321, rfl, ho0, hb⟩; refine ⟨_, rfl, ?_⟩; have n0_ := Aside0.mk (Kd.S_lower ho0 (below_size (by repeat (first | (with_reducible first | exact HB.out | apply below_alloc | apply pw_below_drewN | apply below_drew1 | refine below_set ?_ GE317.out) | exact HB.out)))); have n1_ := Aside0.mk (blk_below (g := gb317) (o := .cells #[.int .i64 a0_0, .slice A0_1 l0_1.length c0_1] 24 (0, 0)) (by (with_reducible repeat (first | refine blk_drewN ?_ _ | refine blk_drew ?_ | refine blk_alloc ?_ _)); exact BK317.out) hb); have n2_ := Aside0.mk (below_step (by repeat (first | (with_reducible first | exact HB.out | apply below_alloc | apply pw_below_drewN | apply below_drew1 | refine below_set ?_ GE317.out) | exact HB.out)) hb); clear BK317; clear HB; have HO322 := n0_; have BK317 := n1_; have HB := n2_; clear n0_ n1_ n2_; (try clear hb); (try clear hb2); (try clear hk); (try clear hi); (try clear ho0); obtain ⟨Ao21, co21, eo21⟩ := Kd.S_slice HO322.out; subst eo21) | ((with_reducible refine gate_callee (f := 18) rfl ?_); refine goesA_ (some 26) rfl rfl Tryd.func18 (by kernel_rfl) rfl #[.agg #[.int .i64 t319, .slice Ao21 t320.length co21], .string a1, .bool a2] rfl ?_; (with_reducible refine (spec_PlayState.calls k t319 _ _ t320 a1 a2 t323 t324 _ ?side1 ?side2 A12.out).mono ?_); (case side1 => repeat (first | exact (Kd.S_reads' HO322.out).2.2 | (with_reducible refine Kd.C_alloc ?_ _) | (with_reducible refine Kd.C_drewN ?_ _) | (with_reducible refine Kd.C_drew ?_))); (case side2 => exact (Kd.S_reads' HO322.out).2.1); rintro e w22 ⟨rfl, hb⟩; refine ⟨_, rfl, ?_⟩; have n0_ := Aside0.mk (Kd.S_below (by (with_reducible repeat (first | apply Kd.S_alloc | apply Kd.S_drewN | apply Kd.S_drew)); exact HO322.out) hb); have n1_ := Aside0.mk (blk_below (g := gb317) (o := .cells #[.int .i64 a0_0, .slice A0_1 l0_1.length c0_1] 24 (0, 0)) (by (with_reducible repeat (first | refine blk_drewN ?_ _ | refine blk_drew ?_ | refine blk_alloc ?_ _)); exact BK317.out) hb); have n2_ := Aside0.mk (below_step (by repeat (first | (with_reducible first | exact HB.out | apply below_alloc | apply pw_below_drewN | apply below_drew1 | refine below_set ?_ GE317.out) | exact HB.out)) hb); clear HO322; clear BK317; clear HB; have HO322 := n0_; have BK317 := n1_; have HB := n2_; clear n0_ n1_ n2_; (try clear hb); (try clear hb2); (try clear hk); (try clear hi); have hcz23_0 : w22.cell? ⟨gb317, 0, none⟩ = some (.int .i64 a0_0) := (blk_cell BK317.out 0).trans rfl; have hcz23_1 : w22.cell? ⟨gb317, 1, none⟩ = some (.slice A0_1 l0_1.length c0_1) := (blk_cell BK317.out 1).trans rfl; have hfz23_0 := blk_frozen BK317.out 0; have hfz23_1 := blk_frozen BK317.out 1) | ((with_reducible refine gate_callee (f := 11) rfl ?_); refine goesA_ (some 30) rfl rfl Tryd.func11 (by kernel_rfl) rfl #[.agg #[.int .i64 a0_0, .slice A0_1 l0_1.length c0_1]] rfl ?_; (with_reducible refine (laws_toNet.calls k a0_0 _ _ l0_1 t325 t326 _ ?side1 ?side2 A13.out).mono ?_); (case side1 => repeat (first | exact (Kd.C_below HR0_1.out HB.out) | (with_reducible refine Kd.C_alloc ?_ _) | (with_reducible refine Kd.C_drewN ?_ _) | (with_reducible refine Kd.C_drew ?_))); (case side2 => exact HC0_1.out); rintro e w24 ⟨v327, rfl, ho0, hb⟩; refine ⟨_, rfl, ?_⟩; obtain ⟨nq25, hi⟩ := nq_of hb; have n0_ := Aside0.mk (Kd.S_elder' (S_ltN (by (with_reducible repeat (first | apply Kd.S_alloc | apply Kd.S_drewN | apply Kd.S_drew)); exact HO322.out) hi) (Kd.S_base ho0) hb); have n1_ := Aside0.mk (Kd.S_lower (Kd.S_new' (S_geN ho0 hi) (Kd.S_lt (by (with_reducible repeat (first | apply Kd.S_alloc | apply Kd.S_drewN | apply Kd.S_drew)); exact HO322.out))) (below_size (by repeat (first | (with_reducible first | exact HB.out | apply below_alloc | apply pw_below_drewN | apply below_drew1 | refine below_set ?_ GE317.out) | exact HB.out)))); have n2_ := Aside0.mk (blk_below (g := gb317) (o := .cells #[.int .i64 a0_0, .slice A0_1 l0_1.length c0_1] 24 (0, 0)) (by (with_reducible repeat (first | refine blk_drewN ?_ _ | refine blk_drew ?_ | refine blk_alloc ?_ _)); exact BK317.out) hb); have n3_ := Aside0.mk (below_step (by repeat (first | (with_reducible first | exact HB.out | apply below_alloc | apply pw_below_drewN | apply below_drew1 | refine below_set ?_ GE317.out) | exact HB.out)) hb); clear HO322; clear BK317; clear HB; have HO322 := n0_; have HO328 := n1_; have BK317 := n2_; have HB := n3_; clear n0_ n1_ n2_ n3_; (try clear hb); (try clear hb2); (try clear hk); (try clear hi); (try clear ho0)) | ((with_reducible refine gate_dst (N := 10) rfl ?_); refine box_event ?hg (N := 10) ?hd (cs := #[.int .i64 0, .slice none 0 0]) (t := 28) ?hr ?_; (case hd => rfl); (case hg => rfl); (case hr => first | (go_simp; done) | (go_simp; rfl)); intro gb329 hg w26 hbox hb; have n0_ := Aside0.mk (Kd.S_below (by (with_reducible repeat (first | apply Kd.S_alloc | apply Kd.S_drewN | apply Kd.S_drew)); exact HO322.out) hb); have n1_ := Aside0.mk (Kd.S_below (by (with_reducible repeat (first | apply Kd.S_alloc | apply Kd.S_drewN | apply Kd.S_drew)); exact HO328.out) hb); have n2_ := Aside0.mk (blk_below (g := gb317) (o := .cells #[.int .i64 a0_0, .slice A0_1 l0_1.length c0_1] 24 (0, 0)) (by (with_reducible repeat (first | refine blk_drewN ?_ _ | refine blk_drew ?_ | refine blk_alloc ?_ _)); exact BK317.out) hb); have n3_ := Aside0.mk (below_step (by repeat (first | (with_reducible first | exact HB.out | apply below_alloc | apply pw_below_drewN | apply below_drew1 | refine below_set ?_ GE317.out) | exact HB.out)) hb); have n4_ := Aside0.mk (hbox); have n5_ := Aside0.mk ((by rw [hg]; exact (below_size (by repeat (first | (with_reducible first | exact HB.out | apply below_alloc | apply pw_below_drewN | apply below_drew1 | refine below_set ?_ GE317.out) | exact HB.out))) : w.heap.size ≤ gb329)); have n6_ := Aside0.mk ((by rw [hg]; exact (below_size (by repeat (first | (with_reducible first | exact HB.out | apply below_alloc | apply pw_below_drewN | apply below_drew1 | refine below_set ?_ GE317.out) | exact HB.out))) : w.heap.size ≤ gb329)); have n7_ := Aside0.mk ((by rw [hg]; exact Nat.ne_of_lt (blk_lt (g := gb317) (o := .cells #[.int .i64 a0_0, .slice A0_1 l0_1.length c0_1] 24 (0, 0)) (by (with_reducible repeat (first | refine blk_drewN ?_ _ | refine blk_drew ?_ | refine blk_alloc ?_ _)); exact BK317.out)) : gb317 ≠ gb329)); have n8_ := Aside0.mk ((by rw [hg]; exact Nat.ne_of_gt (blk_lt (g := gb317) (o := .cells #[.int .i64 a0_0, .slice A0_1 l0_1.length c0_1] 24 (0, 0)) (by (with_reducible repeat (first | refine blk_drewN ?_ _ | refine blk_drew ?_ | refine blk_alloc ?_ _)); exact BK317.out)) : gb329 ≠ gb317)); clear HO322; clear HO328; clear BK317; clear HB; have HO322 := n0_; have HO328 := n1_; have BK317 := n2_; have HB := n3_; have BK329 := n4_; have GW329 := n5_; have GE329 := n6_; have NB317_329 := n7_; have NB329_317 := n8_; clear n0_ n1_ n2_ n3_ n4_ n5_ n6_ n7_ n8_; clear hb hbox hg; have hnb27 := NB329_317.out; have hnc27 := NB317_329.out; have hcz28_0 : w26.cell? ⟨gb329, 0, none⟩ = some (.int .i64 0) := (blk_cell BK329.out 0).trans rfl; have hcz28_1 : w26.cell? ⟨gb329, 1, none⟩ = some (.slice none 0 0) := (blk_cell BK329.out 1).trans rfl; have hfz28_0 := blk_frozen BK329.out 0; have hfz28_1 := blk_frozen BK329.out 1; obtain ⟨Ao29, co29, eo29⟩ := Kd.S_slice HO328.out; subst eo29) | ((with_reducible refine gate_callee (f := 19) rfl ?_); refine goesA_ (some 35) rfl rfl Tryd.func19 (by kernel_rfl) rfl #[.agg #[.int .i64 t325, .slice Ao29 t326.length co29], .string a1, .bool a2] rfl ?_; (with_reducible refine (impl_PlayState.calls k t325 _ _ t326 a1 a2 t330 t331 _ ?side1 ?side2 A14.out).mono ?_); (case side1 => refine (Kd.S_reads' (e := 38) (base := w.heap.size) (ok := fun k_ => ((True ∧ nq25 ≤ k_) ∧ some k_ ≠ (.slice Ao21 t320.length co21 : Value).ownBlock)) (n := t326.length) (c := co29) ?_).2.2; exact (by (with_reducible repeat (first | apply Kd.S_alloc | apply Kd.S_drewN | apply Kd.S_drew)); exact (Kd.S_mono (Kd.S_far (p := ⟨gb329, 1, none⟩) (Kd.S_far (p := ⟨gb329, 0, none⟩) (Kd.S_types HO328.out BK329.out (by decide)) (fun _ hk => hk.2) (.int .i64 t325)) (fun _ hk => hk.2) (.slice Ao29 t326.length co29)) (fun _ h_ => h_.1)))); (case side2 => exact (Kd.S_reads' HO328.out).2.1); rintro e w30 ⟨rfl, hb⟩; refine ⟨_, rfl, ?_⟩; have n0_ := Aside0.mk (Kd.S_below (by (with_reducible repeat (first | apply Kd.S_alloc | apply Kd.S_drewN | apply Kd.S_drew)); exact (Kd.S_mono (Kd.S_far (p := ⟨gb329, 1, none⟩) (Kd.S_far (p := ⟨gb329, 0, none⟩) (Kd.S_types HO322.out BK329.out (by decide)) (fun _ hk => hk.2) (.int .i64 t325)) (fun _ hk => hk.2) (.slice Ao29 t326.length co29)) (fun _ h_ => h_.1))) hb); have n1_ := Aside0.mk (Kd.S_below (by (with_reducible repeat (first | apply Kd.S_alloc | apply Kd.S_drewN | apply Kd.S_drew)); exact (Kd.S_mono (Kd.S_far (p := ⟨gb329, 1, none⟩) (Kd.S_far (p := ⟨gb329, 0, none⟩) (Kd.S_types HO328.out BK329.out (by decide)) (fun _ hk => hk.2) (.int .i64 t325)) (fun _ hk => hk.2) (.slice Ao29 t326.length co29)) (fun _ h_ => h_.1))) hb); have n2_ := Aside0.mk (blk_below (g := gb317) (o := .cells #[.int .i64 a0_0, .slice A0_1 l0_1.length c0_1] 24 (0, 0)) (by (with_reducible repeat (first | refine blk_drewN ?_ _ | refine blk_drew ?_ | refine blk_alloc ?_ _)); refine blk_far ?_ NB317_329.out _; (with_reducible repeat (first | refine blk_drewN ?_ _ | refine blk_drew ?_ | refine blk_alloc ?_ _)); refine blk_far ?_ NB317_329.out _; (with_reducible repeat (first | refine blk_drewN ?_ _ | refine blk_drew ?_ | refine blk_alloc ?_ _)); exact BK317.out) hb); have n3_ := Aside0.mk (blk_below (g := gb329) (o := .cells #[.int .i64 t325, .slice Ao29 t326.length co29] 28 (0, 0)) (by (with_reducible repeat (first | refine blk_drewN ?_ _ | refine blk_drew ?_ | refine blk_alloc ?_ _)); refine blk_put (cs := #[.int .i64 t325, .slice none 0 0]) ?_ 1 _ rfl; (with_reducible repeat (first | refine blk_drewN ?_ _ | refine blk_drew ?_ | refine blk_alloc ?_ _)); refine blk_put (cs := #[.int .i64 0, .slice none 0 0]) ?_ 0 _ rfl; (with_reducible repeat (first | refine blk_drewN ?_ _ | refine blk_drew ?_ | refine blk_alloc ?_ _)); exact BK329.out) hb); have n4_ := Aside0.mk (below_step (by repeat (first | (with_reducible first | exact HB.out | apply below_alloc | apply pw_below_drewN | apply below_drew1 | refine below_set ?_ GE317.out | refine below_set ?_ GE329.out) | exact HB.out)) hb); clear HO322; clear HO328; clear BK317; clear BK329; clear HB; have HO322 := n0_; have HO328 := n1_; have BK317 := n2_; have BK329 := n3_; have HB := n4_; clear n0_ n1_ n2_ n3_ n4_; (try clear hb); (try clear hb2); (try clear hk); (try clear hi)))
   (try simp only [Act.put, List.setIfInBounds_toArray, List.set_cons_zero, List.set_cons_succ])
   go_cut [45] (fun v45 wc => ∃ (kq : Nat) (x45_14 : Bool), v45 = .bool x45_14 ∧ Aside0 (laws_FnExactPlayState.j0 kq x45_14 a0_0 l0_1 t325 t326 = some true) ∧ Aside0 (kq ≤ k) ∧ Aside0 (Kd.S (Kd.slice 2 (Kd.int .i64)) 38 wc w.heap.size (fun k_ => nq25 ≤ k_) (.slice Ao29 t326.length co29) t326) ∧ Aside0 (wc.heap[gb317]? = some (.cells #[.int .i64 a0_0, (.slice A0_1 l0_1.length c0_1)] 24 (0, 0))) ∧ Aside0 (wc.heap[gb329]? = some (.cells #[.int .i64 t325, (.slice Ao29 t326.length co29)] 28 (0, 0))) ∧ Aside0 (Below w.heap.size w wc))
   case first =>
    have H := HC15.out
    clear HC15
    by_cases c31 : t330.toList = t323.toList
    ·rw [if_pos c31] at H
     have c31b0 : (t330.toList == t323.toList) = true := beq_iff_eq.mpr c31
     have c31b1 : (t330.toList != t323.toList) = false := bne_eq_false_iff_eq.mpr c31
     clear c31
     (first | rw [c31b0] | (simp only [i64_w, i32_w]; rw [c31b0]) | skip)
     have H' := Aside0.mk H
     clear H
     go_wp2
     go_meet
     case rel => exact ⟨_, ((t331 != t324)), (by first | rfl | (simp; done) | (simp [*]; done)), H', ⟨by first | omega | exact Nat.le_refl _⟩, ⟨by (with_reducible repeat (first | apply Kd.S_alloc | apply Kd.S_drewN | apply Kd.S_drew)); exact Kd.S_mono HO328.out (fun _ hk => hk.1.2)⟩, ⟨by (with_reducible repeat (first | refine blk_drewN ?_ _ | refine blk_drew ?_ | refine blk_alloc ?_ _)); exact BK317.out⟩, ⟨by (with_reducible repeat (first | refine blk_drewN ?_ _ | refine blk_drew ?_ | refine blk_alloc ?_ _)); exact BK329.out⟩, ⟨by repeat (first | (with_reducible first | exact HB.out | apply below_alloc | apply pw_below_drewN | apply below_drew1 | refine below_set ?_ GE317.out | refine below_set ?_ GE329.out) | exact HB.out)⟩⟩
    ·rw [if_neg c31] at H
     have c31b0 : (t330.toList == t323.toList) = false := beq_eq_false_iff_ne.mpr c31
     have c31b1 : (t330.toList != t323.toList) = true := bne_iff_ne.mpr c31
     (first | rw [c31b0] | (simp only [i64_w, i32_w]; rw [c31b0]) | skip)
     have H' := Aside0.mk H
     clear H
     go_wp2
     go_meet
     case rel => exact ⟨_, (true), (by first | rfl | (simp; done) | (simp [*]; done)), H', ⟨by first | omega | exact Nat.le_refl _⟩, ⟨by (with_reducible repeat (first | apply Kd.S_alloc | apply Kd.S_drewN | apply Kd.S_drew)); exact Kd.S_mono HO328.out (fun _ hk => hk.1.2)⟩, ⟨by (with_reducible repeat (first | refine blk_drewN ?_ _ | refine blk_drew ?_ | refine blk_alloc ?_ _)); exact BK317.out⟩, ⟨by (with_reducible repeat (first | refine blk_drewN ?_ _ | refine blk_drew ?_ | refine blk_alloc ?_ _)); exact BK329.out⟩, ⟨by repeat (first | (with_reducible first | exact HB.out | apply below_alloc | apply pw_below_drewN | apply below_drew1 | refine below_set ?_ GE317.out | refine below_set ?_ GE329.out) | exact HB.out)⟩⟩
   case rest =>
    clear HC15
    (try clear c1); (try clear c2); (try clear p2); (try clear q2); (try clear c3); (try clear c4); (try clear c4b0); (try clear c4b1); (try clear c6); (try clear c7); (try clear c7b0); (try clear c9); (try clear c11); (try clear c18); (try clear c19); (try clear q25); (try clear c27); (try clear c31); (try clear c31b0); (try clear c31b1); (try clear hcz17_0); (try clear hcz17_1); (try clear hcz19_0); (try clear hcz19_1); (try clear hcz23_0); (try clear hcz23_1); (try clear hcz28_0); (try clear hcz28_1); (try clear hcz9_0); (try clear hcz9_1); (try clear hfz17_0); (try clear hfz17_1); (try clear hfz19_0); (try clear hfz19_1); (try clear hfz23_0); (try clear hfz23_1); (try clear hfz28_0); (try clear hfz28_1); (try clear hfz9_0); (try clear hfz9_1)
    obtain ⟨kq, x45_14, rfl, HA, HJ14, HO_330001, BK317, BK329, HB⟩ := hcut
    cases kq with
    | zero => exact absurd HA.out (by simp [laws_FnExactPlayState.j0])
    | succ kj14 =>
     have H := HA.out
     clear HA
     simp only [laws_FnExactPlayState.j0] at H
     by_cases c32 : x45_14 = true
     ·subst c32
      have H1 : (some false) = some true := by rw [if_pos rfl] at H; exact H
      clear H
      have H := H1
      clear H1
      exact absurd H (by simp)
     ·replace c32 := Bool.eq_false_iff.mpr c32
      subst c32
      have H1 : ((laws_toNet.f kj14 a0_0 l0_1).bind fun bt332 => ((laws_eqNet.f kj14 t325 t326 bt332.1 bt332.2).bind fun t336 => (if t336 = true then (some true) else (some false)))) = some true := by rw [if_neg (show ¬ (false = true) by decide)] at H; exact H
      clear H
      have H := H1
      clear H1
      replace H := Option.bind_eq_some_iff.mp H
      obtain ⟨⟨t332, t333⟩, A330, H⟩ := H
      replace H : ((laws_eqNet.f kj14 t325 t326 t332 t333).bind fun t336 => (if t336 = true then (some true) else (some false))) = some true := H
      have A33 := Aside0.mk A330
      clear A330
      replace H := Option.bind_eq_some_iff.mp H
      obtain ⟨t336, A340, H⟩ := H
      replace H : (if t336 = true then (some true) else (some false)) = some true := H
      have A34 := Aside0.mk A340
      clear A340
      by_cases c35 : t336 = true
      ·subst c35
       have H1 : (some true) = some true := rfl
       clear H
       have H := H1
       clear H1
       clear H
       try go_wp2
       have n0_ := Aside0.mk (Kd.S_drew HO_330001.out)
       have n1_ := Aside0.mk (blk_drew BK317.out)
       have n2_ := Aside0.mk (blk_drew BK329.out)
       have n3_ := Aside0.mk (below_drew1 HB.out)
       clear HO_330001
       clear BK317
       clear BK329
       clear HB
       have HO_330001 := n0_
       have BK317 := n1_
       have BK329 := n2_
       have HB := n3_
       clear n0_ n1_ n2_ n3_
       refine start_ (n := 5) (S := fun w' => w'.cell? ⟨gb329, 0, none⟩ = some (.int .i64 t325) ∧ w'.cell? ⟨gb329, 1, none⟩ = some (.slice Ao29 t326.length co29) ∧ w'.cell? ⟨gb317, 0, none⟩ = some (.int .i64 a0_0) ∧ w'.cell? ⟨gb317, 1, none⟩ = some (.slice A0_1 l0_1.length c0_1)) (ds := []) #[false, false, false, false, false] (by kernel_rfl) rfl rfl ⟨(blk_cell BK329.out 0).trans rfl, (blk_cell BK329.out 1).trans rfl, (blk_cell BK317.out 0).trans rfl, (blk_cell BK317.out 1).trans rfl⟩ (fun hHeld => ?_)
       generalize wc.drew = w36 at HO_330001 BK317 BK329 HB hHeld ⊢
       refine take_ (i := 0) (N := some 46) (v := ?_) (a' := ?_) #[true, false, false, false, false] rfl rfl (by kernel_rfl) (fun _ _ _ h => h) (Or.inl ⟨by rfl, ?_⟩) hHeld ?_ ?_
       rotate_left; (· (rintro w' ⟨s0, s1, s2, s3⟩; go_simp; with_reducible rfl)); rotate_left; (· (simp only [Act.put, List.setIfInBounds_toArray, List.set_cons_zero, List.set_cons_succ, i64_w, i32_w]; rfl))
       refine take_ (i := 1) (N := some 47) (v := ?_) (a' := ?_) #[true, true, false, false, false] rfl rfl (by kernel_rfl) (fun _ _ _ h => h) (Or.inl ⟨by rfl, ?_⟩) hHeld ?_ ?_
       rotate_left; (· (rintro w' ⟨s0, s1, s2, s3⟩; go_simp; with_reducible rfl)); rotate_left; (· (simp only [Act.put, List.setIfInBounds_toArray, List.set_cons_zero, List.set_cons_succ, i64_w, i32_w]; rfl))
       refine one_ (i := 2) (N := some 48) #[true, true, true, false, false] rfl rfl (by kernel_rfl) (by decide) (fun K hK => ?_)
       refine goes_ Tryd.func11 (by kernel_rfl) rfl #[.agg #[.int .i64 a0_0, .slice A0_1 l0_1.length c0_1]] (by rfl) rfl rfl (by (try simp only [List.map_toArray, List.map_cons, List.map_nil]); first | done | rfl | (simp only [List.length_drop, List.length_take]; rfl)) ?_
       with_reducible refine (laws_toNet.calls kj14 a0_0 _ _ l0_1 t332 t333 _ ?side1 ?side2 A33.out).mono ?_
       (case side1 => repeat (first | exact (Kd.C_below HR0_1.out HB.out) | (with_reducible refine Kd.C_alloc ?_ _) | (with_reducible refine Kd.C_drewN ?_ _) | (with_reducible refine Kd.C_drew ?_)))
       (case side2 => exact HC0_1.out)
       rintro e w37 ⟨v334, rfl, ho0, hb⟩
       refine ⟨_, rfl, ?_⟩
       have n0_ := Aside0.mk (Kd.S_elder' (by (with_reducible repeat (first | apply Kd.S_alloc | apply Kd.S_drewN | apply Kd.S_drew)); exact HO_330001.out) (Kd.S_base ho0) hb)
       have n1_ := Aside0.mk (Kd.S_lower (Kd.S_new' ho0 (Kd.S_lt (by (with_reducible repeat (first | apply Kd.S_alloc | apply Kd.S_drewN | apply Kd.S_drew)); exact HO_330001.out))) (below_size (by repeat (first | (with_reducible first | exact HB.out | apply below_alloc | apply pw_below_drewN | apply below_drew1 | refine below_set ?_ GE317.out | refine below_set ?_ GE329.out) | exact HB.out))))
       have n2_ := Aside0.mk (blk_below (g := gb317) (o := .cells #[.int .i64 a0_0, .slice A0_1 l0_1.length c0_1] 24 (0, 0)) (by (with_reducible repeat (first | refine blk_drewN ?_ _ | refine blk_drew ?_ | refine blk_alloc ?_ _)); exact BK317.out) hb)
       have n3_ := Aside0.mk (blk_below (g := gb329) (o := .cells #[.int .i64 t325, .slice Ao29 t326.length co29] 28 (0, 0)) (by (with_reducible repeat (first | refine blk_drewN ?_ _ | refine blk_drew ?_ | refine blk_alloc ?_ _)); exact BK329.out) hb)
       have n4_ := Aside0.mk (below_step (by repeat (first | (with_reducible first | exact HB.out | apply below_alloc | apply pw_below_drewN | apply below_drew1 | refine below_set ?_ GE317.out | refine below_set ?_ GE329.out) | exact HB.out)) hb)
       clear HO_330001
       clear BK317
       clear BK329
       clear HB
       have HO_330001 := n0_
       have HO335 := n1_
       have BK317 := n2_
       have BK329 := n3_
       have HB := n4_
       clear n0_ n1_ n2_ n3_ n4_
       (try clear hb)
       (try clear hb2)
       (try clear hk)
       (try clear hi)
       (try clear ho0)
       obtain ⟨Ao38, co38, eo38⟩ := Kd.S_slice HO335.out
       (first | subst eo38 | (injection eo38 with f1_ f2_ f3_; have f4_ := f1_.symm; have f5_ := f3_.symm; clear f1_ f2_ f3_; subst f4_; subst f5_))
       refine hK.out _ _ ⟨(blk_cell BK329.out 0).trans rfl, (blk_cell BK329.out 1).trans rfl, (blk_cell BK317.out 0).trans rfl, (blk_cell BK317.out 1).trans rfl⟩ (fun hHeld => ?_)
       clear hK K
       refine norm_ (a' := ?_) ?_ ?_
       rotate_left
       ·show Act.put _ (some 48) _ = _
        simp only [Act.put, List.setIfInBounds_toArray, List.set_cons_zero, List.set_cons_succ, i64_w, i32_w]
        rfl
       refine one_ (i := 3) (N := some 49) #[true, true, true, true, false] rfl rfl (by kernel_rfl) (by decide) (fun K hK => ?_)
       refine goes_ Tryd.func13 (by kernel_rfl) rfl #[.agg #[.int .i64 t325, .slice Ao29 t326.length co29], .agg #[.int .i64 t332, .slice Ao38 t333.length co38]] (by rfl) rfl rfl (by (try simp only [List.map_toArray, List.map_cons, List.map_nil]); first | done | rfl | (simp only [List.length_drop, List.length_take]; rfl)) ?_
       with_reducible refine (laws_eqNet.calls kj14 t325 _ _ t326 t332 _ _ t333 true _ ?side1 ?side2 ?side3 ?side4 A34.out).mono ?_
       (case side1 => repeat (first | exact (Kd.S_reads' HO_330001.out).2.2 | (with_reducible refine Kd.C_alloc ?_ _) | (with_reducible refine Kd.C_drewN ?_ _) | (with_reducible refine Kd.C_drew ?_)))
       (case side2 => exact (Kd.S_reads' HO_330001.out).2.1)
       (case side3 => repeat (first | exact (Kd.S_reads' HO335.out).2.2 | (with_reducible refine Kd.C_alloc ?_ _) | (with_reducible refine Kd.C_drewN ?_ _) | (with_reducible refine Kd.C_drew ?_)))
       (case side4 => exact (Kd.S_reads' HO335.out).2.1)
       rintro e w39 ⟨rfl, hb⟩
       refine ⟨_, rfl, ?_⟩
       have n0_ := Aside0.mk (Kd.S_below (by (with_reducible repeat (first | apply Kd.S_alloc | apply Kd.S_drewN | apply Kd.S_drew)); exact HO_330001.out) hb)
       have n1_ := Aside0.mk (Kd.S_below (by (with_reducible repeat (first | apply Kd.S_alloc | apply Kd.S_drewN | apply Kd.S_drew)); exact HO335.out) hb)
       have n2_ := Aside0.mk (blk_below (g := gb317) (o := .cells #[.int .i64 a0_0, .slice A0_1 l0_1.length c0_1] 24 (0, 0)) (by (with_reducible repeat (first | refine blk_drewN ?_ _ | refine blk_drew ?_ | refine blk_alloc ?_ _)); exact BK317.out) hb)
       have n3_ := Aside0.mk (blk_below (g := gb329) (o := .cells #[.int .i64 t325, .slice Ao29 t326.length co29] 28 (0, 0)) (by (with_reducible repeat (first | refine blk_drewN ?_ _ | refine blk_drew ?_ | refine blk_alloc ?_ _)); exact BK329.out) hb)
       have n4_ := Aside0.mk (below_step (by repeat (first | (with_reducible first | exact HB.out | apply below_alloc | apply pw_below_drewN | apply below_drew1 | refine below_set ?_ GE317.out | refine below_set ?_ GE329.out) | exact HB.out)) hb)
       clear HO_330001
       clear HO335
       clear BK317
       clear BK329
       clear HB
       have HO_330001 := n0_
       have HO335 := n1_
       have BK317 := n2_
       have BK329 := n3_
       have HB := n4_
       clear n0_ n1_ n2_ n3_ n4_
       (try clear hb)
       (try clear hb2)
       (try clear hk)
       (try clear hi)
       refine hK.out _ _ ⟨(blk_cell BK329.out 0).trans rfl, (blk_cell BK329.out 1).trans rfl, (blk_cell BK317.out 0).trans rfl, (blk_cell BK317.out 1).trans rfl⟩ (fun hHeld => ?_)
       clear hK K
       refine norm_ (a' := ?_) ?_ ?_
       rotate_left
       ·show Act.put _ (some 49) _ = _
        simp only [Act.put, List.setIfInBounds_toArray, List.set_cons_zero, List.set_cons_succ, i64_w, i32_w]
        rfl
       refine pure_ (i := 4) (N := some 50) (v := ?_) (a' := ?_) #[true, true, true, true, true] rfl rfl (by kernel_rfl) (fun _ _ _ h => h) (Or.inl ⟨by rfl, ?_⟩) ?_ ?_
       rotate_left; (· (intro w'; go_simp; with_reducible rfl)); rotate_left; (· (simp only [Act.put, List.setIfInBounds_toArray, List.set_cons_zero, List.set_cons_succ, i64_w, i32_w]; rfl))
       refine done_ (by kernel_rfl) ?_
       try go_wp2
       go_ret
       exact ⟨by first | rfl | (simp [errW_none, errW_some] <;> rfl) | (simp [*, errW_none, errW_some] <;> rfl), by repeat (first | (with_reducible first | exact HB.out | apply below_alloc | apply pw_below_drewN | apply below_drew1 | refine below_set ?_ GE317.out | refine below_set ?_ GE329.out) | exact HB.out)⟩
      ·replace c35 := Bool.eq_false_iff.mpr c35
       subst c35
       have H1 : (some false) = some true := by rw [if_neg (show ¬ (false = true) by decide)] at H; exact H
       clear H
       have H := H1
       clear H1
       exact absurd H (by simp)
-- needs: 61 (short never minds a better state, nor to move)
def ValidS (s : ByteArray) : Prop := ∀ i : Nat, i < s.size → bt s (i : Int) = 46 ∨ bt s (i : Int) = 115 ∨ bt s (i : Int) = 99
def LeS (s t : ByteArray) : Prop := s.size = t.size ∧ ∀ i : Nat, i < s.size → (bt s (i : Int) = 115 → bt t (i : Int) = 115) ∧ (bt t (i : Int) = 99 → bt s (i : Int) = 99)
theorem LeS.refl (s : ByteArray) : LeS s s := ⟨rfl, fun _ _ => ⟨id, id⟩⟩
theorem LeS.trans {s t u : ByteArray} (h : LeS s t) (k : LeS t u) : LeS s u :=
  ⟨h.1.trans k.1, fun i hi => ⟨fun e => (k.2 i (by have := h.1; omega)).1 ((h.2 i hi).1 e), fun e => (h.2 i hi).2 ((k.2 i (by have := h.1; omega)).2 e)⟩⟩
theorem mem_freeV {s : ByteArray} {x : Int} : x ∈ freeV s ↔ ∃ j : Nat, x = (j : Int) ∧ j < s.size ∧ bt s (j : Int) = 46 := by
  unfold freeV
  rw [mem_chosenTo]
  constructor
  · rintro ⟨h0, h1, h2⟩
    refine ⟨x.toNat, by omega, by omega, ?_⟩
    have e : ((x.toNat : Nat) : Int) = x := by omega
    rw [e]; exact beq_iff_eq.1 h2
  · rintro ⟨j, rfl, hj, h⟩
    exact ⟨by omega, by omega, beq_iff_eq.2 h⟩
theorem validS_after {s : ByteArray} (h : ValidS s) (j : Nat) (b : Bool) (hj : j < s.size) : ValidS (afterV s j b) := by
  intro i hi
  rw [afterV_size s j b hj] at hi
  rw [afterV_bt s j b hj i hi]
  split
  · cases b <;> simp
  · exact h i hi-- The reference's winner: sets by bits, what is known by numbers.
def bitsN (p : Nat → Bool) : Nat → Nat
  | 0 => 0
  | i + 1 => if p i = true then bitsN p i ||| 2 ^ i else bitsN p i
theorem bitsN_bit (p : Nat → Bool) : ∀ n j, (bitsN p n).testBit j = (decide (j < n) && p j)
  | 0, j => by simp [bitsN]
  | n + 1, j => by
    have ih := bitsN_bit p n j
    unfold bitsN
    by_cases h : p n = true
    · rw [if_pos h, Nat.testBit_or, ih, Nat.testBit_two_pow]
      by_cases e : n = j
      · subst e; simp [h]
      · by_cases hlt : j < n
        · simp [hlt, e, Nat.lt_succ_of_lt hlt]
        · have : ¬ j < n + 1 := by omega
          simp [hlt, e, this]
    · rw [if_neg h, ih]
      by_cases e : n = j
      · subst e; simp [h]
      · by_cases hlt : j < n
        · simp [hlt, Nat.lt_succ_of_lt hlt]
        · have : ¬ j < n + 1 := by omega
          simp [hlt, this]
theorem bitsN_lt (p : Nat → Bool) : ∀ n, bitsN p n < 2 ^ n
  | 0 => by simp [bitsN]
  | n + 1 => by
    have ih := bitsN_lt p n
    have e : 2 ^ (n + 1) = 2 ^ n * 2 := Nat.pow_succ 2 n
    unfold bitsN
    split
    · exact Nat.or_lt_two_pow (by omega) (by rw [e]; have := Nat.two_pow_pos n; omega)
    · omega
def keptS (s : ByteArray) : Nat := bitsN (fun i => bt s (i : Int) == 115) s.size
def outS (s : ByteArray) : Nat := bitsN (fun i => bt s (i : Int) == 99) s.size
def numS (s : ByteArray) (b : Bool) : Nat := (keptS s * 2 ^ s.size + outS s) * 2 + (if b then 0 else 1)
theorem keptS_after (s : ByteArray) (j : Nat) (b : Bool) (hj : j < s.size) (hf : bt s (j : Int) = 46) : keptS (afterV s j b) = if b then keptS s ||| 2 ^ j else keptS s := by
  unfold keptS
  rw [afterV_size s j b hj]
  apply Nat.eq_of_testBit_eq
  intro x
  rw [bitsN_bit]
  cases b with
  | true =>
    rw [if_pos rfl, Nat.testBit_or, bitsN_bit, Nat.testBit_two_pow]
    by_cases hx : x < s.size
    · rw [afterV_bt s j true hj x hx]
      by_cases e : x = j
      · subst e; simp [hx]
      · rw [if_neg e]; simp [hx, Ne.symm e]
    · have : j ≠ x := by omega
      simp [hx, this]
  | false =>
    rw [if_neg (by simp), bitsN_bit]
    by_cases hx : x < s.size
    · rw [afterV_bt s j false hj x hx]
      by_cases e : x = j
      · subst e; simp [hx, hf]
      · rw [if_neg e]
    · simp [hx]
theorem outS_after (s : ByteArray) (j : Nat) (b : Bool) (hj : j < s.size) (hf : bt s (j : Int) = 46) : outS (afterV s j b) = if b then outS s else outS s ||| 2 ^ j := by
  unfold outS
  rw [afterV_size s j b hj]
  apply Nat.eq_of_testBit_eq
  intro x
  rw [bitsN_bit]
  cases b with
  | false =>
    rw [if_neg (by simp), Nat.testBit_or, bitsN_bit, Nat.testBit_two_pow]
    by_cases hx : x < s.size
    · rw [afterV_bt s j false hj x hx]
      by_cases e : x = j
      · subst e; simp [hx]
      · rw [if_neg e]; simp [hx, Ne.symm e]
    · have : j ≠ x := by omega
      simp [hx, this]
  | true =>
    rw [if_pos rfl, bitsN_bit]
    by_cases hx : x < s.size
    · rw [afterV_bt s j true hj x hx]
      by_cases e : x = j
      · subst e; simp [hx, hf]
      · rw [if_neg e]
    · simp [hx]
theorem state_ext {s t : ByteArray} (hs : s.size = t.size) (h : ∀ i : Nat, i < s.size → bt s (i : Int) = bt t (i : Int)) : s = t := by
  apply ByteArray.ext
  apply Array.ext
  · simpa using hs
  · intro i h1 h2
    have h1' : i < s.size := by simpa using h1
    have h2' : i < t.size := by simpa using h2
    have e := h i h1'
    rw [bt_get s i h1', bt_get t i h2'] at e
    have e2 : (s[i]'h1').toNat = (t[i]'h2').toNat := by omega
    exact UInt8.toNat_inj.1 e2
theorem numS_inj {s t : ByteArray} {b c : Bool} (hs : s.size = t.size) (hvs : ValidS s) (hvt : ValidS t) (h : numS s b = numS t c) : s = t ∧ b = c := by
  unfold numS at h
  have hb : b = c := by cases b <;> cases c <;> simp at h <;> first | rfl | omega
  subst hb
  have hx : keptS s * 2 ^ s.size + outS s = keptS t * 2 ^ t.size + outS t := by omega
  have o1 := bitsN_lt (fun i => bt s (i : Int) == 99) s.size
  have o2 := bitsN_lt (fun i => bt t (i : Int) == 99) t.size
  have hp : 0 < 2 ^ s.size := Nat.two_pow_pos _
  have ho : outS s = outS t := by
    have e1 : (keptS s * 2 ^ s.size + outS s) % 2 ^ s.size = outS s := by rw [Nat.mul_comm, Nat.mul_add_mod]; exact Nat.mod_eq_of_lt o1
    have e2 : (keptS t * 2 ^ t.size + outS t) % 2 ^ t.size = outS t := by rw [Nat.mul_comm, Nat.mul_add_mod]; exact Nat.mod_eq_of_lt o2
    rw [← e1, ← e2, hx, hs]
  have hk : keptS s = keptS t := by
    rw [ho, ← hs] at hx
    exact Nat.eq_of_mul_eq_mul_right hp (by omega)
  refine ⟨state_ext hs fun i hi => ?_, rfl⟩
  have k1 := congrArg (fun m => Nat.testBit m i) hk
  have k2 := congrArg (fun m => Nat.testBit m i) ho
  simp only [keptS, outS, bitsN_bit, hi, show i < t.size from by omega, decide_true, Bool.true_and] at k1 k2
  rcases hvs i hi with e | e | e <;> rcases hvt i (by omega) with f | f | f <;> rw [e, f] at k1 k2 ⊢ <;> simp at k1 k2
theorem bitN_and (m : Nat) (hm : m < 9223372036854775808) : (Go.bits .and .i64 ((m : Int) / 2) 1 = 1) ↔ m.testBit 1 = true := by
  have e : ((m : Int) / 2) = shr .i64 (m : Int) ((1 : Nat) : Int) := by simp [shr, IntKind.bits]
  rw [e, bit_nat m 1 hm (by omega)]
  split <;> simp_all
theorem specOver_ev (p : Int) (l : List (List Int)) (hl : NetEdges l) (s : ByteArray) (hs : s.size = l.length) : Ev (fun k => spec_l10Over.f k p l (keptS s : Nat) (outS s : Nat)) (ovV l s) := by
  have hn := hl.1
  have two : ∀ n, n ≤ 10 → 2 ^ n ≤ 1024 := fun n h => Nat.pow_le_pow_right (by omega) h
  have hk : keptS s < 1024 := Nat.lt_of_lt_of_le (bitsN_lt _ _) (two _ (by omega))
  have ho : outS s < 1024 := Nat.lt_of_lt_of_le (bitsN_lt _ _) (two _ (by omega))
  have hw : IntKind.u64.wrap ((l.length : Nat) : Int) = (l.length : Int) := u64_nat _ (by omega)
  obtain ⟨c1, e1, L1⟩ := reachS_ev p l hl (keptS s) 0 (by omega) (by omega)
  have h2 := two l.length hn
  have hpos := Nat.two_pow_pos l.length
  have eall : Go.bits .andNot .i64 (wrap64 ((shl .i64 1 (l.length : Int)) - 1)) ((outS s : Nat) : Int) = ((butNat (2 ^ l.length - 1) (outS s) : Nat) : Int) := by
    rw [shl_nat _ (by omega)]
    have : wrap64 (((2 ^ l.length : Nat) : Int) - 1) = ((2 ^ l.length - 1 : Nat) : Int) := by
      generalize 2 ^ l.length = z at *
      unfold wrap64; omega
    rw [this, bits_but_nat _ _ (by omega) (by omega)]
  have hbut := butNat_lt (2 ^ l.length - 1) (outS s) (by omega) (by omega)
  obtain ⟨c2, e2, L2⟩ := reachS_ev p l hl (butNat (2 ^ l.length - 1) (outS s)) 0 (by omega) (by omega)
  have r1 : c1 = reachN (fun i => bt s (i : Int) == 115) l 0 := reachN_of hl (by omega) (L1.congr fun i hi => by
    simp only [keptS, bitsN_bit, show i < s.size from by omega, decide_true, Bool.true_and])
  have r2 : c2 = reachN (fun i => bt s (i : Int) != 99) l 0 := reachN_of hl (by omega) (L2.congr fun i hi => by
    show (butNat (2 ^ l.length - 1) (outS s)).testBit i = _
    rw [butNat_bit _ _ _ (by omega) (by omega), Nat.testBit_two_pow_sub_one]
    simp only [outS, bitsN_bit, hi, show i < s.size from by omega, decide_true, Bool.true_and]
    rfl)
  unfold spec_l10Over.f
  rw [hw]
  refine Ev.congr (fun k => by rw [if_pos (by omega)]) (Ev.bind (by simpa using e1) ?_)
  have hov : ovV l s = (if c1.testBit 1 = true then 1 else if c2.testBit 1 = true then 0 else 2) := by unfold ovV; rw [r1, r2]
  rw [hov]
  by_cases d1 : c1.testBit 1 = true
  · simp only [d1, if_true]
    exact Ev.congr (f := fun _ => some 1) (fun k => by rw [if_pos ((bitN_and c1 (by have := L1.1; omega)).2 d1)]) (Ev.now _)
  · simp only [d1, if_false]
    refine Ev.congr (fun k => by rw [if_neg (fun h => d1 ((bitN_and c1 (by have := L1.1; omega)).1 h))]) ?_
    rw [eall]
    refine Ev.bind (by simpa using e2) ?_
    have hz : (Go.bits .and .i64 ((c2 : Int) / 2) 1 = 0) ↔ ¬ c2.testBit 1 = true := by
      have e : ((c2 : Int) / 2) = shr .i64 (c2 : Int) ((1 : Nat) : Int) := by simp [shr, IntKind.bits]
      rw [e, bit_nat c2 1 (by have := L2.1; omega) (by omega)]
      split <;> simp_all
    by_cases d2 : c2.testBit 1 = true
    · exact Ev.congr (f := fun _ => some 0) (fun k => by rw [if_neg (fun h => hz.1 h d2)]) (Ev.congr (fun k => by simp [d2]) (Ev.now _))
    · exact Ev.congr (f := fun _ => some 2) (fun k => by rw [if_pos (hz.2 d2)]) (Ev.congr (fun k => by simp [d2]) (Ev.now _))
-- The reference's winner is the winner.
def KOk (l : List (List Int)) (known : List Int) : Prop := ∀ s b, s.size = l.length → ValidS s → known.getD (numS s b) 0 = 0 ∨ known.getD (numS s b) 0 = netWin l s b
theorem getD_set_sameI (l : List Int) (i : Nat) (a : Int) (h : i < l.length) : (l.set i a).getD i 0 = a := by
  rw [List.getD_eq_getElem?_getD, List.getElem?_set_self (by simpa using h)]; rfl
theorem getD_set_neI (l : List Int) (i j : Nat) (a : Int) (h : i ≠ j) : (l.set i a).getD j 0 = l.getD j 0 := by
  rw [List.getD_eq_getElem?_getD, List.getD_eq_getElem?_getD, List.getElem?_set_ne h]
theorem KOk.put {l : List (List Int)} {known : List Int} (h : KOk l known) {s : ByteArray} {b : Bool} (hs : s.size = l.length) (hv : ValidS s) : KOk l (known.set (numS s b) (netWin l s b)) := by
  intro t c ht hvt
  by_cases e : numS s b = numS t c
  · obtain ⟨rfl, rfl⟩ := numS_inj (hs.trans ht.symm) hv hvt e
    by_cases hl : numS s b < known.length
    · exact .inr (getD_set_sameI _ _ _ hl)
    · rw [List.set_eq_of_length_le (by omega)]; exact h s b hs hv
  · rw [getD_set_neI _ _ _ _ e]; exact h t c ht hvt
theorem numS_lt (s : ByteArray) (b : Bool) : numS s b < 2 * (2 ^ s.size * 2 ^ s.size) := by
  have h1 : keptS s < 2 ^ s.size := bitsN_lt _ _
  have h2 : outS s < 2 ^ s.size := bitsN_lt _ _
  unfold numS
  generalize keptS s = K at *
  generalize outS s = O at *
  generalize 2 ^ s.size = B at *
  have : (K + 1) * B ≤ B * B := Nat.mul_le_mul_right B h1
  have e : (K + 1) * B = K * B + B := Nat.succ_mul K B
  split <;> omega
theorem shlN (K n : Nat) (hn : n ≤ 10) (hK : K < 1024) : shl .i64 (K : Int) (n : Int) = ((K * 2 ^ n : Nat) : Int) := by
  have h2 : 2 ^ n ≤ 1024 := Nat.pow_le_pow_right (by omega) hn
  have hm : K * 2 ^ n ≤ 1024 * 1024 := Nat.mul_le_mul (by omega) h2
  unfold shl
  have e : min ((n : Int).toNat) IntKind.i64.bits = n := by
    have : IntKind.i64.bits = 64 := rfl
    omega
  rw [e]
  have e2 : (K : Int) * 2 ^ n = ((K * 2 ^ n : Nat) : Int) := by push_cast; rfl
  rw [e2, i64_nat _ (by omega)]
theorem num_val (s : ByteArray) (b : Bool) (hs : s.size ≤ 10) : wrap64 ((wrap64 ((wrap64 ((Go.bits .or .i64 (shl .i64 ((keptS s : Nat) : Int) (s.size : Int)) ((outS s : Nat) : Int)) * 2)) + ownV b)) - 1) = (numS s b : Int) := by
  have h2 : 2 ^ s.size ≤ 1024 := Nat.pow_le_pow_right (by omega) hs
  have h1 : keptS s < 2 ^ s.size := bitsN_lt _ _
  have h3 : outS s < 2 ^ s.size := bitsN_lt _ _
  have hm : keptS s * 2 ^ s.size ≤ 1024 * 1024 := Nat.mul_le_mul (by omega) h2
  rw [shlN _ _ hs (by omega), bits_or_nat _ _ (by omega) (by omega)]
  have e : keptS s * 2 ^ s.size ||| outS s = keptS s * 2 ^ s.size + outS s := by
    rw [Nat.mul_comm]; exact (Nat.two_pow_add_eq_or_of_lt h3 _).symm
  rw [e]
  unfold numS
  generalize keptS s * 2 ^ s.size = X at *
  generalize outS s = O at *
  cases b
  · show wrap64 (wrap64 (wrap64 (((X + O : Nat) : Int) * 2) + 2) - 1) = _
    unfold wrap64; simp; omega
  · show wrap64 (wrap64 (wrap64 (((X + O : Nat) : Int) * 2) + 1) - 1) = _
    unfold wrap64; simp; omega
theorem win_yes {l : List (List Int)} {s : ByteArray} {b : Bool} (h0 : ovV l s = 0) {j : Nat} (hj : j < s.size) (hf : bt s (j : Int) = 46) (h : netWin l (afterV s j b) (!b) = ownV b) : netWin l s b = ownV b := by
  rw [netWin_eq, if_pos h0, if_pos]
  exact List.any_eq_true.2 ⟨(j : Int), mem_freeV.2 ⟨j, rfl, hj, hf⟩, beq_iff_eq.2 h⟩
theorem win_no {l : List (List Int)} {s : ByteArray} {b : Bool} (h0 : ovV l s = 0) (h : ∀ j : Nat, j < s.size → bt s (j : Int) = 46 → netWin l (afterV s j b) (!b) ≠ ownV b) : netWin l s b = 3 - ownV b := by
  rw [netWin_eq, if_pos h0, if_neg]
  intro ha
  obtain ⟨x, hx, hw⟩ := List.any_eq_true.1 ha
  obtain ⟨j, rfl, hj, hf⟩ := mem_freeV.1 hx
  exact h j hj hf (beq_iff_eq.1 hw)
theorem specWin_ev (p : Int) (l : List (List Int)) (hl : NetEdges l) : ∀ (d : Nat) (s : ByteArray) (b : Bool) (known : List Int), (freeV s).length < d → s.size = l.length → ValidS s → KOk l known → known.length = 2 * (2 ^ l.length * 2 ^ l.length) →
    ∃ known' : List Int, Ev (fun k => spec_l10Winner.f k p l (keptS s : Nat) (outS s : Nat) (ownV b) known) (netWin l s b, known') ∧ KOk l known' ∧ known'.length = known.length := by
  intro d
  induction d with
  | zero => intro s b known hd; omega
  | succ d ih =>
    intro s b known hd hs hv hk hlen
    have hn := hl.1
    have hu : IntKind.u64.wrap ((l.length : Nat) : Int) = (s.size : Int) := by rw [u64_nat _ (by omega), hs]
    have hnum := num_val s b (by omega)
    have hlt := numS_lt s b
    rw [hs] at hlt
    have hor := ownV_range b
    have hK : keptS s < 1024 := Nat.lt_of_lt_of_le (bitsN_lt _ _) (Nat.pow_le_pow_right (by omega) (by omega : s.size ≤ 10))
    have hO : outS s < 1024 := Nat.lt_of_lt_of_le (bitsN_lt _ _) (Nat.pow_le_pow_right (by omega) (by omega : s.size ≤ 10))
    by_cases hp : known.getD (numS s b) 0 > 0
    · refine ⟨known, ?_, hk, rfl⟩
      have e : known.getD (numS s b) 0 = netWin l s b := by
        rcases hk s b hs hv with e | e
        · omega
        · exact e
      refine Ev.step (f := fun _ => some (netWin l s b, known)) (fun k => ?_) (Ev.now _)
      simp only [spec_l10Winner.f]
      rw [hu, hnum, if_pos (by omega), if_pos (by omega), if_pos (by rw [hlen]; omega), rd_nat, if_pos hp, e]
    · have loop : ovV l s = 0 → ∀ (e i : Nat) (w : Int) (kn : List Int), i + e = s.size → KOk l kn → kn.length = known.length → ((w = ownV b ∧ netWin l s b = ownV b) ∨ (w = 3 - ownV b ∧ ∀ j : Nat, j < i → bt s (j : Int) = 46 → netWin l (afterV s j b) (!b) ≠ ownV b)) →
          ∃ kn' : List Int, Ev (fun k => spec_l10Winner.l0 k (keptS s : Nat) (outS s : Nat) (ownV b) kn (s.size : Int) (numS s b : Int) w (i : Int) p l) (netWin l s b, kn') ∧ KOk l kn' ∧ kn'.length = known.length := by
        intro h0 e
        have fin : ∀ (kn : List Int) (i : Nat), KOk l kn → kn.length = known.length → ∀ w : Int, w = netWin l s b → Ev (fun k => spec_l10Winner.j1 k (keptS s : Nat) (outS s : Nat) (ownV b) kn (s.size : Int) (numS s b : Int) w (i : Int) false p l) (netWin l s b, kn.set (numS s b) (netWin l s b)) ∧ KOk l (kn.set (numS s b) (netWin l s b)) ∧ (kn.set (numS s b) (netWin l s b)).length = known.length := by
          intro kn i hkn hkl w hw
          refine ⟨Ev.step (f := fun _ => some (netWin l s b, kn.set (numS s b) (netWin l s b))) (fun k => ?_) (Ev.now _), hkn.put hs hv, by simpa using hkl⟩
          simp only [spec_l10Winner.j1]
          rw [if_neg (by simp), if_pos (by omega), if_pos (by rw [hkl, hlen]; omega), hw, Int.toNat_natCast]
        induction e with
        | zero =>
          intro i w kn hi hkn hkl hw
          have ew : w = netWin l s b := by
            rcases hw with ⟨rfl, h⟩ | ⟨rfl, h⟩
            · exact h.symm
            · exact (win_no h0 fun j hj hf => h j (by omega) hf).symm
          obtain ⟨f1, f2, f3⟩ := fin kn i hkn hkl w ew
          refine ⟨_, Ev.step (fun k => ?_) f1, f2, f3⟩
          simp only [spec_l10Winner.l0]
          rw [if_neg (by omega)]
        | succ e ihe =>
          intro i w kn hi hkn hkl hw
          have hlt2 : i < s.size := by omega
          rcases hw with ⟨rfl, h⟩ | ⟨rfl, h⟩
          · obtain ⟨f1, f2, f3⟩ := fin kn i hkn hkl _ h.symm
            refine ⟨_, Ev.step (fun k => ?_) f1, f2, f3⟩
            simp only [spec_l10Winner.l0]
            rw [if_pos (by omega)]
            have : (ownV b != ownV b) = false := by simp
            rw [this]
          · have hne : (3 - ownV b != ownV b) = true := bne_iff_ne.2 (by omega)
            have hui : IntKind.u64.wrap ((i : Int) + 1) = ((i + 1 : Nat) : Int) := by
              have := u64_nat (i + 1) (by omega)
              rw [← this]; rfl
            have hbit : Go.bits .and .i64 (shr .i64 (Go.bits .or .i64 ((keptS s : Nat) : Int) ((outS s : Nat) : Int)) (i : Int)) 1 = if bt s (i : Int) = 46 then 0 else 1 := by
              rw [bits_or_nat _ _ (by omega) (by omega)]
              have hor2 : keptS s ||| outS s < 1024 := Nat.or_lt_two_pow (n := 10) hK hO
              rw [bit_nat _ _ (by omega) (by omega), Nat.testBit_or]
              simp only [keptS, outS, bitsN_bit, hlt2, decide_true, Bool.true_and]
              rcases hv i hlt2 with f | f | f <;> rw [f] <;> simp
            have hsh : shl .i64 1 (i : Int) = ((2 ^ i : Nat) : Int) := shl_nat i (by omega)
            have h2i : 2 ^ i ≤ 1024 := Nat.pow_le_pow_right (by omega) (by omega : i ≤ 10)
            by_cases hf : bt s (i : Int) = 46
            · rw [if_pos hf] at hbit
              have hfl := free_less s (i : Int) b (mem_freeV.2 ⟨i, rfl, hlt2, hf⟩)
              obtain ⟨kn1, e1, k1, l1⟩ := ih (afterV s i b) (!b) kn (by omega) ((afterV_size s i b hlt2).trans hs) (validS_after hv i b hlt2) hkn (hkl.trans hlen)
              rw [keptS_after s i b hlt2 hf, outS_after s i b hlt2 hf] at e1
              have more : ∀ (w2 : Int), (w2 = if netWin l (afterV s i b) (!b) = ownV b then ownV b else 3 - ownV b) → ∃ kn' : List Int, Ev (fun k => spec_l10Winner.l0 k (keptS s : Nat) (outS s : Nat) (ownV b) kn1 (s.size : Int) (numS s b : Int) w2 ((i + 1 : Nat) : Int) p l) (netWin l s b, kn') ∧ KOk l kn' ∧ kn'.length = known.length := by
                intro w2 hw2
                refine ihe (i + 1) w2 kn1 (by omega) k1 (l1.trans hkl) ?_
                by_cases hw3 : netWin l (afterV s i b) (!b) = ownV b
                · rw [if_pos hw3] at hw2
                  exact .inl ⟨hw2, win_yes h0 hlt2 hf hw3⟩
                · rw [if_neg hw3] at hw2
                  refine .inr ⟨hw2, fun j hj hfj => ?_⟩
                  by_cases ej : j = i
                  · subst ej; exact hw3
                  · exact h j (by omega) hfj
              obtain ⟨kn2, e2, k2, l2⟩ := more _ rfl
              refine ⟨kn2, ?_, k2, l2⟩
              refine Ev.step (f := fun k => spec_l10Winner.j1 k (keptS s : Nat) (outS s : Nat) (ownV b) kn (s.size : Int) (numS s b : Int) (3 - ownV b) (i : Int) true p l) (fun k => ?_) ?_
              · simp only [spec_l10Winner.l0]
                rw [if_pos (by omega), hne]
              cases b with
              | true =>
                have ho1 : ownV true = 1 := rfl
                have ho2 : ownV (!true) = 2 := rfl
                rw [ho1] at e2 ⊢
                rw [ho1] at hor
                rw [ho2] at e1
                simp only [if_true] at e1
                refine Ev.step (f := fun k => (spec_l10Winner.f k p l (Go.bits .or .i64 ((keptS s : Nat) : Int) (shl .i64 1 (i : Int))) ((outS s : Nat) : Int) 2 kn).bind fun bt367 => (if bt367.1 = 1 then (spec_l10Winner.l0 k (keptS s : Nat) (outS s : Nat) 1 bt367.2 (s.size : Int) (numS s true : Int) 1 ((i + 1 : Nat) : Int) p l) else (spec_l10Winner.l0 k (keptS s : Nat) (outS s : Nat) 1 bt367.2 (s.size : Int) (numS s true : Int) (3 - 1) ((i + 1 : Nat) : Int) p l))) (fun k => ?_) ?_
                · simp only [spec_l10Winner.j1, if_true]
                  rw [if_pos (by omega), hbit, if_neg (by omega), hui]
                · rw [hsh, bits_or_nat _ _ (by omega) (by omega)]
                  refine Ev.bind e1 ?_
                  by_cases hw3 : netWin l (afterV s i true) (!true) = 1
                  · rw [if_pos hw3] at e2
                    exact Ev.congr (fun k => by simp only [hw3, if_true]) e2
                  · rw [if_neg hw3] at e2
                    exact Ev.congr (fun k => by simp only [hw3, if_false]) e2
              | false =>
                have ho1 : ownV false = 2 := rfl
                have ho2 : ownV (!false) = 1 := rfl
                rw [ho1] at e2 ⊢
                rw [ho1] at hor
                rw [ho2] at e1
                simp only [Bool.false_eq_true, if_false] at e1
                refine Ev.step (f := fun k => (spec_l10Winner.f k p l ((keptS s : Nat) : Int) (Go.bits .or .i64 ((outS s : Nat) : Int) (shl .i64 1 (i : Int))) 1 kn).bind fun bt369 => (if bt369.1 = 2 then (spec_l10Winner.l0 k (keptS s : Nat) (outS s : Nat) 2 bt369.2 (s.size : Int) (numS s false : Int) 2 ((i + 1 : Nat) : Int) p l) else (spec_l10Winner.l0 k (keptS s : Nat) (outS s : Nat) 2 bt369.2 (s.size : Int) (numS s false : Int) (3 - 2) ((i + 1 : Nat) : Int) p l))) (fun k => ?_) ?_
                · simp only [spec_l10Winner.j1, if_true]
                  rw [if_pos (by omega), hbit, if_neg (by omega), if_neg (by omega), hui]
                · rw [hsh, bits_or_nat _ _ (by omega) (by omega)]
                  refine Ev.bind e1 ?_
                  by_cases hw3 : netWin l (afterV s i false) (!false) = 2
                  · rw [if_pos hw3] at e2
                    exact Ev.congr (fun k => by simp only [hw3, if_true]) e2
                  · rw [if_neg hw3] at e2
                    exact Ev.congr (fun k => by simp only [hw3, if_false]) e2
            · rw [if_neg hf] at hbit
              obtain ⟨kn2, e2, k2, l2⟩ := ihe (i + 1) (3 - ownV b) kn (by omega) hkn hkl (.inr ⟨rfl, fun j hj hfj => by
                by_cases ej : j = i
                · subst ej; exact absurd hfj hf
                · exact h j (by omega) hfj⟩)
              refine ⟨kn2, ?_, k2, l2⟩
              refine Ev.step (f := fun k => spec_l10Winner.j1 k (keptS s : Nat) (outS s : Nat) (ownV b) kn (s.size : Int) (numS s b : Int) (3 - ownV b) (i : Int) true p l) (fun k => ?_) (Ev.step (fun k => ?_) e2)
              · simp only [spec_l10Winner.l0]
                rw [if_pos (by omega), hne]
              · simp only [spec_l10Winner.j1, if_true]
                rw [if_pos (by omega), hbit, if_pos rfl, hui]
      have head : ∀ (F : Nat → Option (Int × List Int)) (r : Int × List Int), Ev F r → (∀ k, F k = (spec_l10Over.f k p l (keptS s : Nat) (outS s : Nat)).bind fun t365 => (if t365 = 0 then (spec_l10Winner.l0 k (keptS s : Nat) (outS s : Nat) (ownV b) known (s.size : Int) (numS s b : Int) (3 - ownV b) ((0 : Nat) : Int) p l) else (some (t365, (known.set (numS s b) t365))))) → Ev (fun k => spec_l10Winner.f k p l (keptS s : Nat) (outS s : Nat) (ownV b) known) r := by
        intro F r hF hE
        refine Ev.step (f := F) (fun k => ?_) hF
        rw [hE]
        have hw3 : wrap64 (3 - ownV b) = 3 - ownV b := by unfold wrap64; omega
        simp only [spec_l10Winner.f]
        rw [hu, hnum, if_pos (by omega), if_pos (by omega), if_pos (by rw [hlen]; omega), rd_nat, if_neg hp, hw3, Int.toNat_natCast]
        rfl
      by_cases h0 : ovV l s = 0
      · obtain ⟨kn, e1, k1, l1⟩ := loop h0 s.size 0 (3 - ownV b) known (by omega) hk rfl (.inr ⟨rfl, fun j hj => by omega⟩)
        refine ⟨kn, ?_, k1, l1⟩
        refine head _ _ (Ev.bind (specOver_ev p l hl s hs) (f := fun k t365 => if t365 = 0 then (spec_l10Winner.l0 k (keptS s : Nat) (outS s : Nat) (ownV b) known (s.size : Int) (numS s b : Int) (3 - ownV b) ((0 : Nat) : Int) p l) else (some (t365, (known.set (numS s b) t365)))) ?_) (fun k => rfl)
        exact Ev.congr (fun k => by rw [if_pos h0]) e1
      · have ew : netWin l s b = ovV l s := by rw [netWin_eq, if_neg h0]
        refine ⟨known.set (numS s b) (netWin l s b), ?_, hk.put hs hv, by simp⟩
        refine head _ _ (Ev.bind (specOver_ev p l hl s hs) (f := fun k t365 => if t365 = 0 then (spec_l10Winner.l0 k (keptS s : Nat) (outS s : Nat) (ownV b) known (s.size : Int) (numS s b : Int) (3 - ownV b) ((0 : Nat) : Int) p l) else (some (t365, (known.set (numS s b) t365)))) ?_) (fun k => rfl)
        exact Ev.congr (f := fun _ => some (netWin l s b, known.set (numS s b) (netWin l s b))) (fun k => by rw [if_neg h0, ew]) (Ev.now _)
-- needs: 40 (room for what is known of a net)
theorem known_val (p : Int) (l : List (List Int)) (hl : l.length ≤ 10) : spec_l10Known.f p l = some (List.replicate (2 * (2 ^ l.length * 2 ^ l.length)) 0) := by
  have hw : IntKind.u64.wrap (wrap64 (2 * (l.length : Int))) = ((2 * l.length : Nat) : Int) := by
    have e : wrap64 (2 * (l.length : Int)) = ((2 * l.length : Nat) : Int) := by unfold wrap64; omega
    rw [e, u64_nat _ (by omega)]
  have h2 : 2 ^ l.length ≤ 1024 := Nat.pow_le_pow_right (by omega) hl
  have hm : 2 ^ l.length * 2 ^ l.length ≤ 1024 * 1024 := Nat.mul_le_mul h2 h2
  have hs : shl .i64 2 ((2 * l.length : Nat) : Int) = ((2 * (2 ^ l.length * 2 ^ l.length) : Nat) : Int) := by
    unfold shl
    have e : min (((2 * l.length : Nat) : Int).toNat) IntKind.i64.bits = 2 * l.length := by
      have : IntKind.i64.bits = 64 := rfl
      omega
    rw [e]
    have e2 : (2 : Int) * 2 ^ (2 * l.length) = ((2 * (2 ^ l.length * 2 ^ l.length) : Nat) : Int) := by
      rw [← Nat.pow_add, ← Nat.two_mul]; push_cast; rfl
    rw [e2, i64_nat _ (by omega)]
  unfold spec_l10Known.f
  rw [hw, hs, if_pos (by omega), if_pos (by omega), if_pos (by omega), Int.toNat_natCast]
theorem KOk_zero (l : List (List Int)) (n : Nat) : KOk l (List.replicate n 0) := fun s b _ _ => .inl (by
  rw [List.getD_eq_getElem?_getD, List.getElem?_replicate]; split <;> rfl)
-- needs: 43 (the reference's moves are the moves)
def movesP (l : List (List Int)) (s : ByteArray) (b : Bool) (k : Int) : Bool := netWin l (afterV s k b) (!b) == ownV b
theorem chosenTo_succ (p : Int → Bool) (k : Nat) : chosenTo p (k + 1) = if p (k : Int) then chosenTo p k ++ [(k : Int)] else chosenTo p k := rfl
set_option maxHeartbeats 4000000 in
theorem specMovesL_ev (p : Int) (l : List (List Int)) (hl : NetEdges l) (s : ByteArray) (b : Bool) (hs : s.size = l.length) (hv : ValidS s) (N : Nat) (hN : N = 2 * (2 ^ l.length * 2 ^ l.length)) : ∀ (e i : Nat) (kn : List Int), i + e = s.size → KOk l kn → kn.length = N →
    ∃ kn' : List Int, Ev (fun k => spec_l10Moves.l0 k (keptS s : Nat) (outS s : Nat) (ownV b) kn ((chosenTo (fun k => bt s k == 46) i).filter (movesP l s b)) (i : Int) p l) ((freeV s).filter (movesP l s b), kn') ∧ KOk l kn' ∧ kn'.length = N := by
  have hn := hl.1
  have HN := Aside0.mk hN
  clear hN
  have hK : keptS s < 1024 := Nat.lt_of_lt_of_le (bitsN_lt _ _) (Nat.pow_le_pow_right (by omega) (by omega : s.size ≤ 10))
  have hO : outS s < 1024 := Nat.lt_of_lt_of_le (bitsN_lt _ _) (Nat.pow_le_pow_right (by omega) (by omega : s.size ≤ 10))
  intro e
  induction e with
  | zero =>
    intro i kn hi hkn hkl
    obtain rfl : i = s.size := by omega
    refine ⟨kn, Ev.step (f := fun _ => some ((freeV s).filter (movesP l s b), kn)) (fun k => ?_) (Ev.now _), hkn, hkl⟩
    simp only [spec_l10Moves.l0]
    rw [if_neg (by omega)]; rfl
  | succ e ih =>
    intro i kn hi hkn hkl
    have hlt2 : i < s.size := by omega
    have hui : IntKind.u64.wrap (i : Int) = (i : Int) := u64_nat i (by omega)
    have hw : wrap64 ((i : Int) + 1) = ((i + 1 : Nat) : Int) := by unfold wrap64; omega
    have hbit : Go.bits .and .i64 (shr .i64 (Go.bits .or .i64 ((keptS s : Nat) : Int) ((outS s : Nat) : Int)) (i : Int)) 1 = if bt s (i : Int) = 46 then 0 else 1 := by
      rw [bits_or_nat _ _ (by omega) (by omega)]
      have hor2 : keptS s ||| outS s < 1024 := Nat.or_lt_two_pow (n := 10) hK hO
      rw [bit_nat _ _ (by omega) (by omega), Nat.testBit_or]
      simp only [keptS, outS, bitsN_bit, hlt2, decide_true, Bool.true_and]
      rcases hv i hlt2 with f | f | f <;> rw [f] <;> simp
    have hsh : shl .i64 1 (i : Int) = ((2 ^ i : Nat) : Int) := shl_nat i (by omega)
    have h2i : 2 ^ i ≤ 1024 := Nat.pow_le_pow_right (by omega) (by omega : i ≤ 10)
    have hlen : ((chosenTo (fun k => bt s k == 46) i).filter (movesP l s b)).length < 17592186044416 := by
      have h1 := List.length_filter_le (movesP l s b) (chosenTo (fun k => bt s k == 46) i)
      have h2 := chosenTo_le (fun k => bt s k == 46) i
      omega
    by_cases hf : bt s (i : Int) = 46
    · rw [if_pos hf] at hbit
      have hfl := chosenTo_le (fun k => bt (afterV s i b) k == 46) (afterV s i b).size
      have hsz := (afterV_size s i b hlt2).trans hs
      obtain ⟨kn1, e1, k1, l1⟩ := specWin_ev p l hl 11 (afterV s i b) (!b) kn (by unfold freeV; omega) hsz (validS_after hv i b hlt2) hkn (hkl.trans HN.out)
      rw [keptS_after s i b hlt2 hf, outS_after s i b hlt2 hf] at e1
      obtain ⟨kn2, e2, g2, n2⟩ := ih (i + 1) kn1 (by omega) k1 (l1.trans hkl)
      have hcs : (chosenTo (fun k => bt s k == 46) (i + 1)).filter (movesP l s b) = if movesP l s b (i : Int) = true then (chosenTo (fun k => bt s k == 46) i).filter (movesP l s b) ++ [(i : Int)] else (chosenTo (fun k => bt s k == 46) i).filter (movesP l s b) := by
        rw [chosenTo_succ, if_pos (beq_iff_eq.2 hf), List.filter_append, List.filter_cons, List.filter_nil]
        cases movesP l s b (i : Int) <;> simp
      rw [hcs] at e2
      refine ⟨kn2, ?_, g2, n2⟩
      have hmp : movesP l s b (i : Int) = true ↔ netWin l (afterV s i b) (!b) = ownV b := beq_iff_eq
      cases b with
      | true =>
        have ho1 : ownV true = 1 := rfl
        have ho2 : ownV (!true) = 2 := rfl
        rw [ho1] at e2 hmp ⊢
        rw [ho2] at e1
        simp only [if_true] at e1
        refine Ev.step (f := fun k => (spec_l10Winner.f k p l (Go.bits .or .i64 ((keptS s : Nat) : Int) (shl .i64 1 (i : Int))) ((outS s : Nat) : Int) 2 kn).bind fun bt272 => (if bt272.1 = 1 then (if ((chosenTo (fun k => bt s k == 46) i).filter (movesP l s true)).length < 17592186044416 then (spec_l10Moves.l0 k (keptS s : Nat) (outS s : Nat) 1 bt272.2 ((chosenTo (fun k => bt s k == 46) i).filter (movesP l s true) ++ [(i : Int)]) ((i + 1 : Nat) : Int) p l) else none) else (spec_l10Moves.l0 k (keptS s : Nat) (outS s : Nat) 1 bt272.2 ((chosenTo (fun k => bt s k == 46) i).filter (movesP l s true)) ((i + 1 : Nat) : Int) p l))) (fun k => ?_) ?_
        · simp only [spec_l10Moves.l0, hui, hw]
          rw [if_pos (by omega), if_pos (by omega), hbit, if_neg (by omega), if_pos trivial]
        · rw [hsh, bits_or_nat _ _ (by omega) (by omega)]
          refine Ev.bind e1 ?_
          by_cases hw3 : netWin l (afterV s i true) (!true) = 1
          · rw [if_pos (hmp.2 hw3)] at e2
            exact Ev.congr (fun k => by simp only [hw3, if_true]; rw [if_pos hlen]) e2
          · rw [if_neg (fun h => hw3 (hmp.1 h))] at e2
            exact Ev.congr (fun k => by simp only [hw3, if_false]) e2
      | false =>
        have ho1 : ownV false = 2 := rfl
        have ho2 : ownV (!false) = 1 := rfl
        rw [ho1] at e2 hmp ⊢
        rw [ho2] at e1
        simp only [Bool.false_eq_true, if_false] at e1
        refine Ev.step (f := fun k => (spec_l10Winner.f k p l ((keptS s : Nat) : Int) (Go.bits .or .i64 ((outS s : Nat) : Int) (shl .i64 1 (i : Int))) 1 kn).bind fun bt272 => (if bt272.1 = 2 then (if ((chosenTo (fun k => bt s k == 46) i).filter (movesP l s false)).length < 17592186044416 then (spec_l10Moves.l0 k (keptS s : Nat) (outS s : Nat) 2 bt272.2 ((chosenTo (fun k => bt s k == 46) i).filter (movesP l s false) ++ [(i : Int)]) ((i + 1 : Nat) : Int) p l) else none) else (spec_l10Moves.l0 k (keptS s : Nat) (outS s : Nat) 2 bt272.2 ((chosenTo (fun k => bt s k == 46) i).filter (movesP l s false)) ((i + 1 : Nat) : Int) p l))) (fun k => ?_) ?_
        · simp only [spec_l10Moves.l0, hui, hw]
          rw [if_pos (by omega), if_pos (by omega), hbit, if_neg (by omega), if_neg (by omega)]
        · rw [hsh, bits_or_nat _ _ (by omega) (by omega)]
          refine Ev.bind e1 ?_
          by_cases hw3 : netWin l (afterV s i false) (!false) = 2
          · rw [if_pos (hmp.2 hw3)] at e2
            exact Ev.congr (fun k => by simp only [hw3, if_true]; rw [if_pos hlen]) e2
          · rw [if_neg (fun h => hw3 (hmp.1 h))] at e2
            exact Ev.congr (fun k => by simp only [hw3, if_false]) e2
    · rw [if_neg hf] at hbit
      obtain ⟨kn2, e2, g2, n2⟩ := ih (i + 1) kn (by omega) hkn hkl
      have hcs : chosenTo (fun k => bt s k == 46) (i + 1) = chosenTo (fun k => bt s k == 46) i := by
        rw [chosenTo_succ, if_neg (fun h => hf (beq_iff_eq.1 h))]
      rw [hcs] at e2
      refine ⟨kn2, Ev.step (fun k => ?_) e2, g2, n2⟩
      simp only [spec_l10Moves.l0, hui, hw]
      rw [if_pos (by omega), if_pos (by omega), hbit, if_pos rfl]
def movesV (l : List (List Int)) (s : ByteArray) (b : Bool) : List Int := if ovV l s = 0 then (freeV s).filter (fun k => netWin l (afterV s k b) (!b) == ownV b) else []
theorem specMovesK_ev (p : Int) (l : List (List Int)) (hl : NetEdges l) (s : ByteArray) (b : Bool) (hs : s.size = l.length) (hv : ValidS s) (kn0 : List Int) (hk : KOk l kn0) (hlen : kn0.length = 2 * (2 ^ l.length * 2 ^ l.length)) : ∃ kn' : List Int, Ev (fun k => spec_l10Moves.f k p l (keptS s : Nat) (outS s : Nat) (ownV b) kn0) (movesV l s b, kn') ∧ KOk l kn' ∧ kn'.length = kn0.length := by
  obtain ⟨kn, hkn, g, n⟩ := specMovesL_ev p l hl s b hs hv _ rfl s.size 0 kn0 (by omega) hk hlen
  have hov : ∀ (h : ¬ ovV l s = 0), ovV l s > 0 := by intro h; have := ovV_range l s; omega
  have head : ∀ r, Ev (fun k => (if ovV l s > 0 then (some (([] : List Int), kn0)) else (spec_l10Moves.l0 k (keptS s : Nat) (outS s : Nat) (ownV b) kn0 [] 0 p l))) r → Ev (fun k => spec_l10Moves.f k p l (keptS s : Nat) (outS s : Nat) (ownV b) kn0) r := by
    intro r hr
    refine Ev.congr (f := fun k => (spec_l10Over.f k p l (keptS s : Nat) (outS s : Nat)).bind fun t271 => (if t271 > 0 then (some ([], kn0)) else (spec_l10Moves.l0 k (keptS s : Nat) (outS s : Nat) (ownV b) kn0 [] 0 p l))) (fun k => by unfold spec_l10Moves.f; rfl) (Ev.bind (specOver_ev p l hl s hs) (f := fun k t271 => (if t271 > 0 then (some ([], kn0)) else (spec_l10Moves.l0 k (keptS s : Nat) (outS s : Nat) (ownV b) kn0 [] 0 p l))) hr)
  unfold movesV
  by_cases h0 : ovV l s = 0
  · refine ⟨kn, head _ ?_, g, n.trans hlen.symm⟩
    refine Ev.congr (fun k => by rw [if_neg (by omega)]) ?_
    rw [if_pos h0]
    exact hkn
  · refine ⟨kn0, head _ ?_, hk, rfl⟩
    rw [if_neg h0]
    exact Ev.congr (f := fun _ => some ([], kn0)) (fun k => by rw [if_pos (hov h0)]) (Ev.now _)-- 'first' of two checks.
theorem first_ev (a b : Bool) : Ev (fun k => impl_first.f k [⟨a, 1⟩, ⟨b, 2⟩]) (if a = true then (if b = true then 0 else 2) else 1) := by
  refine ⟨4, fun k hk => ?_⟩
  obtain ⟨k', rfl⟩ : ∃ k', k = k' + 4 := ⟨k - 4, by omega⟩
  have w1 : wrap64 1 = 1 := by unfold wrap64; omega
  have w2 : wrap64 2 = 2 := by unfold wrap64; omega
  have r0 : ∀ u v : S71, rd_T71 [u, v] 0 = u := fun _ _ => rfl
  have r1 : ∀ u v : S71, rd_T71 [u, v] 1 = v := fun _ _ => rfl
  cases a <;> cases b <;> simp [impl_first.f, impl_first.l0, w1, w2, r0, r1]
-- needs: 35 (the codes of a net and a state)
def charOk (b : UInt8) : Bool := b == 46 || b == 115 || b == 99
def stOk (l : List (List Int)) (s : ByteArray) : Bool := decide (s.size = l.length) && s.data.toList.all charOk
def stCode (p : Int) (l : List (List Int)) (s : ByteArray) : Int := if isNetV p l = true then (if stOk l s = true then 0 else 2) else 1
theorem dropWhile_nil {α : Type} (p : α → Bool) : ∀ (l : List α), l.dropWhile p = [] ↔ l.all p = true
  | [] => by simp
  | a :: l => by
    rw [List.dropWhile_cons, List.all_cons]
    cases h : p a
    · simp
    · simpa using dropWhile_nil p l
theorem all_dropWhile {α : Type} (p : α → Bool) : ∀ (l : List α), (l.dropWhile p).all p = true → l.all p = true
  | [], h => h
  | a :: l, h => by
    rw [List.dropWhile_cons] at h
    cases hp : p a
    · rw [hp] at h; simpa using h
    · rw [hp, if_pos rfl] at h
      rw [List.all_cons, hp, all_dropWhile p l h]; rfl
theorem trimS_nil (l cs : List UInt8) : Lib.trimS l cs = [] ↔ l.all (cs.contains ·) = true := by
  unfold Lib.trimS Lib.trimLeftS Lib.trimRightS
  rw [dropWhile_nil, List.all_reverse]
  constructor
  · intro h
    have := all_dropWhile _ _ h
    rwa [List.all_reverse] at this
  · intro h
    have h2 : l.reverse.all (cs.contains ·) = true := by rwa [List.all_reverse]
    rw [(dropWhile_nil _ _).2 h2]; rfl
theorem trim_ok (s : ByteArray) (hs : s.size ≤ 9223372036854775807) : ∃ t, strings_Trim.f s (⟨#[46, 115, 99]⟩ : ByteArray) = some t ∧ (t.toList == ([] : List UInt8)) = s.data.toList.all charOk := by
  refine ⟨trimV s ⟨#[46, 115, 99]⟩, ?_, ?_⟩
  · unfold strings_Trim.f
    rw [if_pos ⟨hs, by decide, by decide⟩]
  · have e : (trimV s ⟨#[46, 115, 99]⟩).toList = Lib.trimS s.data.toList [46, 115, 99] := by
      unfold trimV
      rw [Go.ByteArray.toList_eq]
    have ec : (fun b : UInt8 => ([46, 115, 99] : List UInt8).contains b) = charOk := by
      funext b; rw [Bool.eq_iff_iff]; simp [charOk, or_assoc]
    rw [e, Bool.eq_iff_iff, beq_iff_eq, trimS_nil, ec]
theorem implCode_ev (p : Int) (l : List (List Int)) (s : ByteArray) (hs : s.size ≤ 9223372036854775807) : Ev (fun k => impl_stateOfCode.f k p l s) (stCode p l s) := by
  have hf := fun b => first_ev (isNetV p l) b
  have hi : ∀ x y, impl_IsNet.f x y = some (isNetV x y) := fun _ _ => rfl
  unfold impl_stateOfCode.f stCode stOk
  by_cases h : s.size = l.length
  · obtain ⟨t, ht, hb⟩ := trim_ok s hs
    refine Ev.congr (f := fun k => impl_first.f k [⟨isNetV p l, 1⟩, ⟨s.data.toList.all charOk, 2⟩]) (fun k => ?_) ?_
    · rw [if_pos (by omega), ht]
      simp only [Option.bind_some, hi, hb]
      cases impl_first.f k [⟨isNetV p l, 1⟩, ⟨s.data.toList.all charOk, 2⟩] <;> rfl
    · rw [decide_eq_true h, Bool.true_and]; exact hf _
  · refine Ev.congr (f := fun k => impl_first.f k [⟨isNetV p l, 1⟩, ⟨false, 2⟩]) (fun k => ?_) ?_
    · rw [if_neg (by omega)]
      simp only [Option.bind_some, hi]
      cases impl_first.f k [⟨isNetV p l, 1⟩, ⟨false, 2⟩] <;> rfl
    · rw [decide_eq_false h, Bool.false_and]; exact hf false
theorem char_bt (s : ByteArray) (i : Nat) (h : i < s.size) : charOk (s.data.toList[i]'(by simpa using h)) = true ↔ (bt s (i : Int) = 46 ∨ bt s (i : Int) = 115 ∨ bt s (i : Int) = 99) := by
  rw [bt_data s i h]
  generalize s.data.toList[i]'(by simpa using h) = b
  have e : ∀ c : Nat, c < 256 → (((b.toNat : Int) = (c : Int)) ↔ b = UInt8.ofNat c) := fun c hc => by
    constructor
    · intro h
      apply UInt8.toNat_inj.1
      rw [UInt8.toNat_ofNat']
      omega
    · rintro rfl
      rw [UInt8.toNat_ofNat']
      omega
  unfold charOk
  rw [Bool.or_eq_true, Bool.or_eq_true, beq_iff_eq, beq_iff_eq, beq_iff_eq]
  have h1 := e 46 (by omega)
  have h2 := e 115 (by omega)
  have h3 := e 99 (by omega)
  constructor
  · rintro ((h | h) | h)
    · exact .inl (h1.2 h)
    · exact .inr (.inl (h2.2 h))
    · exact .inr (.inr (h3.2 h))
  · rintro (h | h | h)
    · exact .inl (.inl (h1.1 h))
    · exact .inl (.inr (h2.1 h))
    · exact .inr (h3.1 h)
theorem stOk_iff (l : List (List Int)) (s : ByteArray) : stOk l s = true ↔ (s.size = l.length ∧ ValidS s) := by
  unfold stOk
  rw [Bool.and_eq_true, decide_eq_true_iff, List.all_eq_true]
  refine and_congr_right fun _ => ⟨fun h i hi => ?_, fun h b hb => ?_⟩
  · exact (char_bt s i hi).1 (h _ (List.getElem_mem _))
  · obtain ⟨i, hi, rfl⟩ := List.getElem_of_mem hb
    have hi' : i < s.size := by simpa using hi
    exact (char_bt s i hi').2 (h i hi')
/-- The sets of a state, walked up to i. -/
theorem setsL_ev (s : ByteArray) (hn : s.size ≤ 10) : ∀ (d i : Nat), i + d = s.size → (∀ j : Nat, j < i → bt s (j : Int) = 46 ∨ bt s (j : Int) = 115 ∨ bt s (j : Int) = 99) →
    Ev (fun k => spec_l10Sets.l0 k s (bitsN (fun j => bt s (j : Int) == 115) i : Nat) (bitsN (fun j => bt s (j : Int) == 99) i : Nat) (i : Int)) (if s.data.toList.all charOk = true then ((keptS s : Int), (outS s : Int), true) else (0, 0, false)) := by
  intro d
  induction d with
  | zero =>
    intro i hi hv
    obtain rfl : i = s.size := by omega
    have ha : s.data.toList.all charOk = true := List.all_eq_true.2 fun b hb => by
      obtain ⟨j, hj, rfl⟩ := List.getElem_of_mem hb
      have hj' : j < s.size := by simpa using hj
      exact (char_bt s j hj').2 (hv j hj')
    refine Ev.step (f := fun _ => some ((keptS s : Int), (outS s : Int), true)) (fun k => ?_) (Ev.congr (fun k => by rw [if_pos ha]) (Ev.now _))
    simp only [spec_l10Sets.l0]
    rw [if_neg (by omega)]; rfl
  | succ d ih =>
    intro i hi hv
    have hlt : i < s.size := by omega
    have hu : IntKind.u64.wrap (i : Int) = (i : Int) := u64_nat i (by omega)
    have hw : wrap64 ((i : Int) + 1) = ((i + 1 : Nat) : Int) := by unfold wrap64; omega
    have hsh : shl .i64 1 (i : Int) = ((2 ^ i : Nat) : Int) := shl_nat i (by omega)
    have h2i : 2 ^ i ≤ 1024 := Nat.pow_le_pow_right (by omega) (by omega : i ≤ 10)
    have k1 : bitsN (fun j => bt s (j : Int) == 115) i < 1024 := Nat.lt_of_lt_of_le (bitsN_lt _ _) h2i
    have k2 : bitsN (fun j => bt s (j : Int) == 99) i < 1024 := Nat.lt_of_lt_of_le (bitsN_lt _ _) h2i
    by_cases h1 : bt s (i : Int) = 115
    · have := ih (i + 1) (by omega) (fun j hj => by
        by_cases e : j = i
        · subst e; exact .inr (.inl h1)
        · exact hv j (by omega))
      rw [show bitsN (fun j => bt s (j : Int) == 115) (i + 1) = bitsN (fun j => bt s (j : Int) == 115) i ||| 2 ^ i from by rw [bitsN, if_pos (by rw [h1]; rfl)], show bitsN (fun j => bt s (j : Int) == 99) (i + 1) = bitsN (fun j => bt s (j : Int) == 99) i from by rw [bitsN, if_neg (by rw [h1]; decide)]] at this
      refine Ev.step (fun k => ?_) this
      simp only [spec_l10Sets.l0]
      rw [if_pos (by omega), if_pos (by omega), if_pos h1, hu, if_pos (by omega), hsh, bits_or_nat _ _ (by omega) (by omega), hw]
    · by_cases h2 : bt s (i : Int) = 99
      · have := ih (i + 1) (by omega) (fun j hj => by
          by_cases e : j = i
          · subst e; exact .inr (.inr h2)
          · exact hv j (by omega))
        rw [show bitsN (fun j => bt s (j : Int) == 115) (i + 1) = bitsN (fun j => bt s (j : Int) == 115) i from by rw [bitsN, if_neg (by rw [h2]; decide)], show bitsN (fun j => bt s (j : Int) == 99) (i + 1) = bitsN (fun j => bt s (j : Int) == 99) i ||| 2 ^ i from by rw [bitsN, if_pos (by rw [h2]; rfl)]] at this
        refine Ev.step (fun k => ?_) this
        simp only [spec_l10Sets.l0]
        rw [if_pos (by omega), if_pos (by omega), if_neg h1, if_pos h2, hu, if_pos (by omega), hsh, bits_or_nat _ _ (by omega) (by omega), hw]
      · by_cases h3 : bt s (i : Int) = 46
        · have := ih (i + 1) (by omega) (fun j hj => by
            by_cases e : j = i
            · subst e; exact .inl h3
            · exact hv j (by omega))
          rw [show bitsN (fun j => bt s (j : Int) == 115) (i + 1) = bitsN (fun j => bt s (j : Int) == 115) i from by rw [bitsN, if_neg (by rw [h3]; decide)], show bitsN (fun j => bt s (j : Int) == 99) (i + 1) = bitsN (fun j => bt s (j : Int) == 99) i from by rw [bitsN, if_neg (by rw [h3]; decide)]] at this
          refine Ev.step (fun k => ?_) this
          simp only [spec_l10Sets.l0]
          rw [if_pos (by omega), if_pos (by omega), if_neg h1, if_neg h2, if_pos h3, hw]
        · have hna : ¬ s.data.toList.all charOk = true := fun ha => by
            have := (char_bt s i hlt).1 (List.all_eq_true.1 ha _ (List.getElem_mem _))
            omega
          refine Ev.step (f := fun _ => some (0, 0, false)) (fun k => ?_) (Ev.congr (fun k => by rw [if_neg hna]) (Ev.now _))
          simp only [spec_l10Sets.l0]
          rw [if_pos (by omega), if_pos (by omega), if_neg h1, if_neg h2, if_neg h3]
theorem specSets_ev (p : Int) (l : List (List Int)) (s : ByteArray) (hl : l.length ≤ 10) : Ev (fun k => spec_l10Sets.f k p l s) (if stOk l s = true then ((keptS s : Int), (outS s : Int), true) else (0, 0, false)) := by
  unfold spec_l10Sets.f stOk
  by_cases h : s.size = l.length
  · have := setsL_ev s (by omega) s.size 0 (by omega) (fun j hj => by omega)
    refine Ev.congr (fun k => by rw [if_pos (by omega)]) (Ev.congr (fun k => rfl) ?_)
    rw [decide_eq_true h, Bool.true_and]
    exact this
  · rw [decide_eq_false h, Bool.false_and, if_neg (by simp)]
    exact Ev.congr (f := fun _ => some (0, 0, false)) (fun k => by rw [if_neg (by omega)]) (Ev.now _)
theorem specCode_ev (p : Int) (l : List (List Int)) (s : ByteArray) (hl : l.length ≤ 9223372036854775807) : Ev (fun k => spec_l10Code.f k p l s) (stCode p l s) := by
  unfold spec_l10Code.f stCode
  refine Ev.bind (l10Is_ev p l hl) ?_
  by_cases h : isNetV p l = true
  · rw [if_pos h]
    refine Ev.congr (fun k => by rw [if_pos h]) (Ev.bind (specSets_ev p l s (netEdges h).1.1) ?_)
    by_cases h2 : stOk l s = true
    · exact Ev.congr (f := fun _ => some 0) (fun k => by simp [h2]) (Ev.congr (fun k => by rw [if_pos h2]) (Ev.now _))
    · exact Ev.congr (f := fun _ => some 2) (fun k => by simp [h2]) (Ev.congr (fun k => by rw [if_neg h2]) (Ev.now _))
  · rw [if_neg h]
    exact Ev.congr (f := fun _ => some 1) (fun k => by rw [if_neg h]) (Ev.now _)
theorem stCode_zero {p : Int} {l : List (List Int)} {s : ByteArray} (h : stCode p l s = 0) : isNetV p l = true ∧ stOk l s = true := by
  unfold stCode at h
  by_cases h1 : isNetV p l = true
  · rw [if_pos h1] at h
    by_cases h2 : stOk l s = true
    · exact ⟨h1, h2⟩
    · rw [if_neg h2] at h; omega
  · rw [if_neg h1] at h; omega
/-- The one pure statement of laws_FnExactPlayState. -/
def laws_FnExactPlayState.Pure : Prop := ∀ (a0_0 : Int) (l0_1 : List (List Int)) (a1 : ByteArray) (a2 : Bool), (Lit.int .i64 a0_0).wf = true → (l0_1.length ≤ maxLen ∧ ∀ y7_ ∈ l0_1, (y7_.length ≤ maxLen ∧ ∀ y8_ ∈ y7_, (Lit.int .i64 y8_).wf = true)) → a1.size ≤ maxLen → ∃ k, laws_FnExactPlayState.f k a0_0 l0_1 a1 a2 = some true
/-- A type's readings as data are values of a kind: what an argument of that type is, whatever it holds. -/
def Rdb {α : Type} (P : Program) (t : TypeId) (d : Kd α) (wf : α → Prop) : Prop :=
  ∀ (H : Type) (enc : TypeId × Value → H) (w : World) (base : Nat) (spare : Nat → Bool) (held : Bool) (fuel : Nat) (cs : List Value) (x : DataW H × List MemPlace),
    DataW.trod enc P w base spare held fuel t cs = some x → ∃ a : α, d.K w a cs ∧ wf a
theorem Rdb.int {P : Program} {t : TypeId} {k : IntKind} (ht : P.underlying t = some (.int k)) : Rdb P t (Kd.int k) (fun n => (Lit.int k n).wf = true) := by
  intro H enc w base spare held fuel cs x h
  obtain ⟨n, rfl, _, hw⟩ := DataW.trod_int ht h
  exact ⟨n, rfl, hw⟩
theorem Rdb.bool {P : Program} {t : TypeId} (ht : P.underlying t = some .bool) : Rdb P t Kd.bool (fun _ => True) := by
  intro H enc w base spare held fuel cs x h
  obtain ⟨n, rfl, _⟩ := DataW.trod_bool ht h
  exact ⟨n, rfl, trivial⟩
theorem Rdb.string {P : Program} {t : TypeId} (ht : P.underlying t = some .string) : Rdb P t Kd.string (fun s => s.size ≤ maxLen) := by
  intro H enc w base spare held fuel cs x h
  obtain ⟨s, rfl, _, hs⟩ := DataW.trod_string ht h
  exact ⟨s, rfl, hs⟩
theorem list_choose {α β : Type} {R : Nat → α → β → Prop} : ∀ (n : Nat) (xs : List α), xs.length = n → (∀ i x, xs[i]? = some x → ∃ y, R i x y) → ∃ ys : List β, ys.length = n ∧ ∀ i x y, xs[i]? = some x → ys[i]? = some y → R i x y := by
  intro n xs
  induction xs generalizing n R with
  | nil =>
    intro hl _
    exact ⟨[], by simpa using hl, by intro i x y h; simp at h⟩
  | cons x xs ih =>
    intro hl h
    obtain ⟨y, hy⟩ := h 0 x rfl
    obtain ⟨ys, h1, h2⟩ := ih (R := fun i a b => R (i + 1) a b) (n - 1) (by simp at hl; omega) (fun i a hi => h (i + 1) a (by simpa using hi))
    refine ⟨y :: ys, by simp at hl ⊢; omega, fun i a b ha hb => ?_⟩
    cases i with
    | zero =>
      simp at ha hb
      subst ha hb
      exact hy
    | succ i => exact h2 i a b (by simpa using ha) (by simpa using hb)
theorem Rdb.slice {α : Type} {P : Program} {t e : TypeId} {d : Kd α} {wf : α → Prop} (ht : P.underlying t = some (.slice e)) (hc : P.cellsOf e = d.sz) (h1 : 0 < d.sz) (r : Rdb P e d wf) :
    Rdb P t (Kd.slice e d) (fun l => l.length ≤ maxLen ∧ ∀ x ∈ l, wf x) := by
  intro H enc w base spare held fuel cs x h
  rcases DataW.trod_slice ht h with ⟨rfl, _⟩ | ⟨a, len, cap, elems, rest, n, _, rfl, _, hb, hl, hm, hlen, hel, _, _⟩
  · exact ⟨[], ⟨none, 0, rfl, by simp, Kd.C_nil _ _⟩, by simp, by simp⟩
  · have each : ∀ i (y : DataW H × List MemPlace), elems[i]? = some y → ∃ b : α, ∃ c, w.cells? base (a.add (i * P.cellsOf e)) (P.cellsOf e) = some c ∧ d.K w b c ∧ wf b := by
      intro i y hy
      have hi : i < len := by have := (List.getElem?_eq_some_iff.1 hy).1; omega
      have h2 := hel i hi
      rw [hy, Option.bind_eq_some_iff] at h2
      obtain ⟨c, hcs, htr⟩ := h2
      obtain ⟨b, hK, hw⟩ := r H enc w base spare held n c y htr
      exact ⟨b, c, hcs, hK, hw⟩
    obtain ⟨xs, hx1, hx2⟩ := list_choose (R := fun i _ (b : α) => ∃ c, w.cells? base (a.add (i * P.cellsOf e)) (P.cellsOf e) = some c ∧ d.K w b c ∧ wf b) len elems hlen each
    have get : ∀ i b, xs[i]? = some b → ∃ c, w.cells? base (a.add (i * P.cellsOf e)) (P.cellsOf e) = some c ∧ d.K w b c ∧ wf b := by
      intro i b hb'
      have hi : i < elems.length := by have := (List.getElem?_eq_some_iff.1 hb').1; omega
      exact hx2 i _ b (List.getElem?_eq_getElem hi) hb'
    refine ⟨xs, ⟨some a, cap, by rw [hx1], by omega, ?_⟩, by omega, fun b hb' => ?_⟩
    · refine ⟨rfl, by rw [hx1]; unfold maxLen at hm; omega, fun hp => ⟨a, rfl, fun j b hj => ?_⟩⟩
      obtain ⟨c, hcs, hK, _⟩ := get j b hj
      obtain ⟨_, hcl, hcell⟩ := World.cells?_some hcs
      refine ⟨c, by rw [hcl, hc], hK, fun i u hu => ?_⟩
      have hi : i < P.cellsOf e := by have := (List.getElem?_eq_some_iff.1 hu).1; omega
      have := hcell i hi
      rw [hu] at this
      rw [Addr.add_add] at this
      rw [← hc]
      exact this
    · obtain ⟨i, hi⟩ := List.mem_iff_getElem?.1 hb'
      obtain ⟨_, _, _, hw⟩ := get i b hi
      exact hw
theorem Rdb.struct2 {α β : Type} {P : Program} {t : TypeId} {f0 f1 : Field} {d0 : Kd α} {d1 : Kd β} {w0 : α → Prop} {w1 : β → Prop} (ht : P.underlying t = some (.struct #[f0, f1])) (o0 : f0.offset = 0) (o1 : f1.offset = P.cellsOf f0.type) (cT : P.cellsOf t = P.cellsOf f0.type + P.cellsOf f1.type)
    (r0 : Rdb P f0.type d0 w0) (r1 : Rdb P f1.type d1 w1) : Rdb P t (Kd.pair d0 d1) (fun x => w0 x.1 ∧ w1 x.2) := by
  intro H enc w base spare held fuel cs x h
  obtain ⟨y0, y1, n, _, hl, h0, h1⟩ := ChangeShapes.trod_struct2 ht h
  rw [o0, List.drop_zero] at h0
  rw [o1, List.take_of_length_le (by rw [List.length_drop, hl, cT]; omega)] at h1
  obtain ⟨a, hK0, hw0⟩ := r0 H enc w base spare held n _ y0 h0
  obtain ⟨b, hK1, hw1⟩ := r1 H enc w base spare held n _ y1 h1
  exact ⟨(a, b), ⟨_, _, (List.take_append_drop _ _).symm, hK0, hK1⟩, hw0, hw1⟩
theorem Rdb.iso {α β : Type} {P : Program} {t : TypeId} {d : Kd α} {wf : α → Prop} (r : Rdb P t d wf) (f : β → α) (g : α → β) (hfg : ∀ a, f (g a) = a) : Rdb P t (Kd.iso d f) (fun b => wf (f b)) := by
  intro H enc w base spare held fuel cs x h
  obtain ⟨a, hK, hw⟩ := r H enc w base spare held fuel cs x h
  exact ⟨g a, by show d.K w (f (g a)) cs; rw [hfg]; exact hK, by show wf (f (g a)); rw [hfg]; exact hw⟩
theorem Rdb.of {α : Type} {P : Program} {t : TypeId} {d : Kd α} {wf : α → Prop} (r : Rdb P t d wf) {H : Type} {enc : TypeId × Value → H} {w : World} {base : Nat} {spare : Nat → Bool} {held : Bool} {v : Value} {x : DataW H} {ps : List MemPlace}
    (h : DataW.Trod enc P w base spare held t v x ps) : ∃ a : α, d.K w a v.cells.toList ∧ wf a := by
  obtain ⟨fuel, hf⟩ := h
  exact r H enc w base spare held fuel _ _ hf

end Go.Proofs.YtcjeccohlmmfoaaDoor.F
