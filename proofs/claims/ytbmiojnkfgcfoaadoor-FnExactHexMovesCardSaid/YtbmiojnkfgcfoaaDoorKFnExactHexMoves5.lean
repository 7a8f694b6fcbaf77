-- written by the session's program xp.py over the kit's print program, and by hand; texts joined by pack.py
import Derived.Test.YtbmiojnkfgcfoaaDoorKFnExactHexMoves4
namespace Go.Proofs.YtbmiojnkfgcfoaaDoor.F
open Go.RowKit Go.Proofs.YtbmiojnkfgcfoaaDoorW.PrintWords Go.Proofs.YtbmiojnkfgcfoaaDoorW.PrintLast Go.Proofs.YtbmiojnkfgcfoaaDoorW.PrintMore
attribute [local go_sem] max2_int min2_int max_two min_two max_three min_three max_four min_four   -- for this text's walks alone
set_option linter.unusedVariables false
set_option linter.unusedSimpArgs false

/-! ### slices_DeleteFunc_int64_int64: function 39 -/
-- EXTERNAL: by hand
-- slices_IndexFunc_int64_int64
set_option maxHeartbeats 4000000 in
set_option maxRecDepth 100000 in
/-- A row of the call's own, made since w0, from which what the predicate strikes is taken out. -/
theorem slices_DeleteFunc_int64_int64.calls (g : Nat) (lb : Array Value) (q : Int → Prop) (p : Int → Bool) (eg : ∀ args w, (callFunc g args).run Tryd.prog w = .ok (.enter g args) w)
    (P0 : Nat → Prop) (u : Value) (l0 : List Int) (w0 w : World) (hp : PredK Tryd.prog g lb (Kd.int .i64) q p w0) (hq : ∀ x ∈ l0, q x) (hB : Below w0.heap.size w0 w) (ho : Kd.R (Kd.int .i64) 2 w w0.heap.size P0 u l0) (hm : l0.length ≤ 4611686018427387904) :
    Calls Tryd.prog 39 #[u, .func (.func g) #[] lb] w fun e w' => ∃ v, e = .returned v ∧ Kd.R (Kd.int .i64) 2 w' w0.heap.size P0 v (l0.filter fun x => !p x) ∧ Below w0.heap.size w0 w' := by
  obtain ⟨A0, c0, rfl⟩ := Kd.R_slice ho
  have HI := slices_IndexFunc_int64_int64.calls g lb q p eg A0 c0 l0 w (hp.later hB) hq (Kd.R_reads' ho).2.2 (by omega)
  have HO := Aside0.mk ho
  have HB := Aside0.mk hB
  by_cases ha : l0.any p = true
  · obtain ⟨k, e1, hk, ht⟩ := idxK_spec p l0 0 ha
    rw [Nat.zero_add] at e1
    rw [e1] at HI
    obtain ⟨gb, cap, eo, gge, glt, cl, hG⟩ := Kd.R_form ho (by omega)
    injection eo with eqa _ eqc
    subst eqa eqc
    have HD := Aside0.mk (show DelInv p l0 k (k + 1) l0 from ⟨rfl, by omega, by omega, ht, rfl⟩)
    have HP := Aside0.mk hp
    have HQ := Aside0.mk hq
    have HG := Aside0.mk gge
    have HC := Aside0.mk (Kd.R_reads' ho).2.1
    have HKk := Aside0.mk hk
    have hne1 : ((k : Int) == -1) = false := beq_eq_false_iff_ne.mpr (by omega)
    clear hp hq hB ho ha e1 hk ht gge glt cl hG
    go_enter Tryd.func39, Tryd.ntmps39
    go_wp2_with (go_at_call 60; refine HI.mono ?_; rintro e w1 ⟨rfl, hb⟩; have n1_ := Aside0.mk (Kd.R_below HO.out hb); have n2_ := Aside0.mk (below_step HB.out hb); clear HO HB hb; have HO := n1_; have HB := n2_; clear n1_ n2_)
    clear HI
    go_loopg [5, 6] l0.length (fun gg s5 s6 wr => ∃ (i j : Nat) (xs : List Int), s5 = .int .i64 i ∧ s6 = .int .i64 j ∧ j ≤ l0.length ∧ l0.length - j ≤ gg ∧ Aside0 (DelInv p l0 i j xs) ∧ Aside0 (Kd.R (Kd.int .i64) 2 wr w0.heap.size P0 (.slice (some ⟨gb, 0, none⟩) l0.length c0) xs) ∧ Aside0 (Below w0.heap.size w0 wr))
    case atStart => exact ⟨k, k + 1, l0, rfl, by have h_ := HKk.out; exact congrArg (Value.int .i64) (show wrap64 ((k : Int) + 1) = ((k + 1 : Nat) : Int) by unfold wrap64; omega), HD.out.2.2.1, by omega, HD, HO, HB⟩
    case round =>
      clear HD HO HB hne1
      obtain ⟨i, j, xs, rfl, rfl, hjl, hgg, HD, HO, HB⟩ := hrel
      by_cases hlt : j < l0.length
      · have hlen := HD.out.1
        have hij := HD.out.2.1
        have hx : xs[j]'(by omega) = l0[j] := HD.out.at_ hlt (by omega)
        obtain ⟨x, hxx⟩ : ∃ x, l0[j] = x := ⟨_, rfl⟩
        have hcell : wr.cell? ⟨gb, j, none⟩ = some (.int .i64 x) := by
          have := (Kd.R_celln 0 HO.out (j : Int) (by omega) (by omega)).1
          rw [Int.toNat_natCast] at this
          rw [this]
          have e : rdOf 0 xs (j : Int) = x := by
            show xs.getD (j : Int).toNat 0 = x
            rw [Int.toNat_natCast, List.getD_eq_getElem?_getD, List.getElem?_eq_getElem (by omega), Option.getD_some, hx, hxx]
          rw [e]
        have hjz : decide ((j : Int) < (l0.length : Int)) = true := decide_eq_true (by omega)
        have hjn : decide (j < l0.length) = true := decide_eq_true hlt
        have hjp := eq_true (show (0 : Int) ≤ (j : Int) by omega)
        have hjq := eq_true (show (j : Int) < (l0.length : Int) by omega)
        have hip := eq_true (show (0 : Int) ≤ (i : Int) by omega)
        have hiq := eq_true (show (i : Int) < (l0.length : Int) by omega)
        have hcall := HP.out wr x (.int .i64 x) (HQ.out x (by rw [← hxx]; exact List.getElem_mem hlt)) rfl HB.out
        cases hpx : p x with
        | false =>
          have HD2 := Aside0.mk (by have := HD.out.keep hlt (by rw [hxx]; exact hpx); rw [hxx] at this; exact this : DelInv p l0 (i + 1) (j + 1) (xs.set i x))
          rw [hpx] at hcall
          have HII := Aside0.mk (show (i : Nat) < l0.length by omega)
          clear hlen hij hx hxx HD hlt hpx
          go_wp2_with (first | (go_at_fn g; refine hcall.mono ?_; rintro e w7 ⟨rfl, hb⟩; have n1_ := Aside0.mk (Kd.R_below HO.out hb); have n2_ := Aside0.mk (below_step HB.out hb); clear HO HB hb hcell; have HO := n1_; have HB := n2_; clear n1_ n2_; obtain ⟨hxi0, hfi0⟩ := Kd.R_celln 0 HO.out (i : Int) (by omega) (by have := HII.out; omega); (try rw [Int.toNat_natCast] at hxi0 hfi0)) | ((with_reducible refine gate_store (t := 2) (p := 33) rfl ?_); refine store_event (t := 2) (p := 33) (v := ?vo) (w1 := (w7.setCell ⟨gb, i, none⟩ (.int .i64 x))) ?hg ?ho ?hn ?hr ?_; (case ho => rfl); (case hg => rfl); (case hn => rfl); (case hr => first | (go_simp; done) | (go_simp; rfl)); intro w8 hw; have hp_ : Kd.R (Kd.int .i64) 2 w8 w0.heap.size P0 (.slice (some ⟨gb, 0, none⟩) l0.length c0) (xs.set i x) := (by rw [hw]; have h_ := (Kd.R_putg HO.out (i : Int) x).1; rw [Int.toNat_natCast] at h_; exact h_); have n1_ := Aside0.mk hp_; have n2_ := Aside0.mk (by rw [hw]; exact below_set HB.out HG.out : Below w0.heap.size w0 w8); clear HO HB hxi0 hfi0 hw hp_; have HO := n1_; have HB := n2_; clear n1_ n2_))
          go_roundg (l0.length - (j + 1))
          case measure => have := HD2.out.2.2.1; omega
          case rel => exact ⟨i + 1, j + 1, xs.set i x, by have h_ := HII.out; exact congrArg (Value.int .i64) (show wrap64 ((i : Int) + 1) = ((i + 1 : Nat) : Int) by unfold wrap64; omega), by first | rfl | exact congrArg (Value.int .i64) (show (j : Int) + 1 = ((j + 1 : Nat) : Int) by omega), HD2.out.2.2.1, Nat.le_refl _, HD2, HO, HB⟩
        | true =>
          have HD2 := Aside0.mk (HD.out.skip hlt (by rw [hxx]; exact hpx))
          rw [hpx] at hcall
          clear hlen hij hx hxx HD hlt hpx
          go_wp2_with (go_at_fn g; refine hcall.mono ?_; rintro e w7 ⟨rfl, hb⟩; have n1_ := Aside0.mk (Kd.R_below HO.out hb); have n2_ := Aside0.mk (below_step HB.out hb); clear HO HB hb hcell; have HO := n1_; have HB := n2_; clear n1_ n2_)
          go_roundg (l0.length - (j + 1))
          case measure => have := HD2.out.2.2.1; omega
          case rel => exact ⟨i, j + 1, xs, rfl, by first | rfl | exact congrArg (Value.int .i64) (show (j : Int) + 1 = ((j + 1 : Nat) : Int) by omega), HD2.out.2.2.1, Nat.le_refl _, HD2, HO, HB⟩
      · have ej : j = l0.length := by omega
        subst ej
        have hlen := HD.out.1
        have hij := HD.out.2.1
        have hc := HC.out
        have hjz : decide ((l0.length : Int) < (l0.length : Int)) = false := decide_eq_false (by omega)
        have hcut : ∀ W : World, (Instr.slice 22 (.slice (some ⟨gb, 0, none⟩) l0.length c0) (some (.int .i64 i)) none none).run Tryd.prog W = .ok (.slice (some ⟨gb, i, none⟩) (l0.length - i) (c0 - i)) W := by
          obtain ⟨i0, hi0, _, hsz, _⟩ := info_parts info2
          intro W
          have := cut_from (P := Tryd.prog) 22 2 .i64 Tryd.underlying22 hi0 1 hsz (some ⟨gb, 0, none⟩) l0.length c0 (i : Int) (by omega) (by omega) W
          rw [Int.toNat_natCast, if_neg (by omega)] at this
          rw [this]
          simp [Addr.add]
          all_goals (intro h_; omega)
        have hcut2 : ∀ W : World, (Instr.slice 22 (.slice (some ⟨gb, 0, none⟩) l0.length c0) none (some (.int .i64 i)) none).run Tryd.prog W = .ok (.slice (some ⟨gb, 0, none⟩) i c0) W := by
          obtain ⟨i0, hi0, _, hsz, _⟩ := info_parts info2
          have := cut_to (P := Tryd.prog) 22 2 .i64 Tryd.underlying22 hi0 (some ⟨gb, 0, none⟩) l0.length c0 (i : Int) (by omega) (by omega) hc
          rw [Int.toNat_natCast] at this
          exact this
        have hcl : ∀ ty, (Builtin.clear_ #[22] ty #[.slice (some ⟨gb, i, none⟩) (l0.length - i) (c0 - i)]).run Tryd.prog wr = .ok (.tuple #[]) (wr.setCells gb i (List.replicate (l0.length - i) (.int .i64 0))) := by
          intro ty
          refine Lib.run_clear_slice wr _ _ ty _ Tryd.underlying22 (fun w => by kernel_rfl) rfl rfl gb i _ _ (by omega) (fun t ht => ?_) (fun t ht => ?_)
          · have := (Kd.R_celln 0 HO.out ((i + t : Nat) : Int) (by omega) (by omega)).1
            rw [Int.toNat_natCast] at this
            rw [this]; rfl
          · have := (Kd.R_celln 0 HO.out ((i + t : Nat) : Int) (by omega) (by omega)).2
            rw [Int.toNat_natCast] at this
            exact this
        obtain ⟨ys, hy1, hy2, hy3, hy4⟩ := R_clear (nb := 0) HG.out (l0.length - i) i wr xs HO.out HB.out (by omega)
        have HY1 := Aside0.mk (Kd.R_take hy1 (m := i) (by omega))
        have HY3 := Aside0.mk hy3
        have HY4 := Aside0.mk hy4
        have HF := Aside0.mk HD.out.2.2.2.1
        clear hy1 hy2 hy3 hy4 hlen hij hc HO HB
        go_wp2
        go_ret
        refine ⟨_, rfl, ?_, HY4.out⟩
        have e := HF.out
        rw [List.take_length] at e
        rw [← e, ← HY3.out]
        exact HY1.out
  · have ha2 : l0.any p = false := by
      cases h : l0.any p with
      | true => exact absurd h ha
      | false => rfl
    obtain ⟨e1, e2⟩ := idxK_none p l0 0 ha2
    rw [e1] at HI
    rw [e2]
    clear hp hq hB ho ha ha2 e1 e2
    go_enter Tryd.func39, Tryd.ntmps39
    go_wp2_with (go_at_call 60; refine HI.mono ?_; rintro e w1 ⟨rfl, hb⟩; have n1_ := Aside0.mk (Kd.R_below HO.out hb); have n2_ := Aside0.mk (below_step HB.out hb); clear HO HB hb; have HO := n1_; have HB := n2_; clear n1_ n2_)
    go_ret
    exact ⟨_, rfl, HO.out, HB.out⟩
set_option maxHeartbeats 4000000 in
set_option maxRecDepth 100000 in
/-- The same of a function value that may turn what lies, as long as I goes on (I counts the calls). -/
theorem slices_DeleteFunc_int64_int64.callsI (g : Nat) (lb : Array Value) (p : Int → Bool) (eg : ∀ args w, (callFunc g args).run Tryd.prog w = .ok (.enter g args) w) (I : Nat → World → Prop) (gm : Nat)
    (P0 : Nat → Prop) (u : Value) (l0 : List Int) (w0 w : World) (hI : I 0 w) (hp : ∀ i W x, i < 2 * l0.length → I i W → x ∈ l0 → Calls Tryd.prog g (#[.int .i64 x] ++ lb) W fun e W' => e = .returned (.bool (p x)) ∧ I (i + 1) W' ∧ W.grownBy W' (some gm))
    (hst : ∀ i W gb j v, w0.heap.size ≤ gb → I i W → I i (W.setCell ⟨gb, j, none⟩ v)) (hgm : gm < w0.heap.size) (hBI : ∀ i W, I i W → w0.heap.size ≤ W.heap.size) (ho : Kd.R (Kd.int .i64) 2 w w0.heap.size P0 u l0) (hm : l0.length ≤ 4611686018427387904) :
    Calls Tryd.prog 39 #[u, .func (.func g) #[] lb] w fun e w' => ∃ v, e = .returned v ∧ Kd.R (Kd.int .i64) 2 w' w0.heap.size P0 v (l0.filter fun x => !p x) ∧ ∃ i, i ≤ 2 * l0.length ∧ I i w' := by
  obtain ⟨A0, c0, rfl⟩ := Kd.R_slice ho
  have ne_ : ∀ {v : Value} {W : World} {xs : List Int}, Kd.R (Kd.int .i64) 2 W w0.heap.size P0 v xs → ∀ k, some gm = some k → some k ≠ v.ownBlock := fun h k hk e => by cases hk; have := Kd.R_base h _ e.symm; omega
  have HI := slices_IndexFunc_int64_int64.callsI g lb p eg (fun i W => I i W ∧ Kd.R (Kd.int .i64) 2 W w0.heap.size P0 (.slice A0 l0.length c0) l0) A0 c0 l0 w ⟨hI, ho⟩ (fun i W x hi hW hx => (hp i W x (by omega) hW.1 hx).mono fun _ _ hh => ⟨hh.1, hh.2.1, Kd.R_grown2 hW.2 rfl hh.2.2 (ne_ hW.2)⟩) (fun i W hW => (Kd.R_reads' hW.2).2.2) (by omega)
  have HNE := Aside0.mk @ne_
  have HST := Aside0.mk hst
  clear ne_ hst
  by_cases ha : l0.any p = true
  · obtain ⟨k, e1, hk, ht⟩ := idxK_spec p l0 0 ha
    rw [Nat.zero_add] at e1
    rw [e1] at HI
    obtain ⟨gb, cap, eo, gge, glt, cl, hG⟩ := Kd.R_form ho (by omega)
    injection eo with eqa _ eqc
    subst eqa eqc
    have HD := Aside0.mk (show DelInv p l0 k (k + 1) l0 from ⟨rfl, by omega, by omega, ht, rfl⟩)
    have HP := Aside0.mk hp
    have HG := Aside0.mk gge
    have HC := Aside0.mk (Kd.R_reads' ho).2.1
    have HKk := Aside0.mk hk
    have hne1 : ((k : Int) == -1) = false := beq_eq_false_iff_ne.mpr (by omega)
    clear hp hI hBI ho ha e1 hk ht gge glt cl hG
    go_enter Tryd.func39, Tryd.ntmps39
    go_wp2_with (go_at_call 60; refine HI.mono ?_; rintro e w1 ⟨rfl, ci, hci, hI1, hR1⟩; have HO := Aside0.mk hR1; have HB := Aside0.mk hI1; have HCI := Aside0.mk hci; clear hI1 hR1 hci)
    clear HI
    go_loopg [5, 6] l0.length (fun gg s5 s6 wr => ∃ (i j : Nat) (xs : List Int), s5 = .int .i64 i ∧ s6 = .int .i64 j ∧ j ≤ l0.length ∧ l0.length - j ≤ gg ∧ Aside0 (DelInv p l0 i j xs) ∧ Aside0 (Kd.R (Kd.int .i64) 2 wr w0.heap.size P0 (.slice (some ⟨gb, 0, none⟩) l0.length c0) xs) ∧ Aside0 (∃ c, c ≤ l0.length + j ∧ I c wr))
    case atStart => exact ⟨k, k + 1, l0, rfl, by have h_ := HKk.out; exact congrArg (Value.int .i64) (show wrap64 ((k : Int) + 1) = ((k + 1 : Nat) : Int) by unfold wrap64; omega), HD.out.2.2.1, by omega, HD, HO, ⟨⟨ci, by have := HCI.out; omega, HB.out⟩⟩⟩
    case round =>
      clear HD HO HB HCI hne1
      obtain ⟨i, j, xs, rfl, rfl, hjl, hgg, HD, HO, HBX⟩ := hrel
      obtain ⟨cc, hcc, hBc⟩ := HBX.out
      have HB := Aside0.mk hBc
      have HCC := Aside0.mk hcc
      clear HBX hBc hcc
      by_cases hlt : j < l0.length
      · have hlen := HD.out.1
        have hij := HD.out.2.1
        have hx : xs[j]'(by omega) = l0[j] := HD.out.at_ hlt (by omega)
        obtain ⟨x, hxx⟩ : ∃ x, l0[j] = x := ⟨_, rfl⟩
        have hcell : wr.cell? ⟨gb, j, none⟩ = some (.int .i64 x) := by
          have := (Kd.R_celln 0 HO.out (j : Int) (by omega) (by omega)).1
          rw [Int.toNat_natCast] at this
          rw [this]
          have e : rdOf 0 xs (j : Int) = x := by
            show xs.getD (j : Int).toNat 0 = x
            rw [Int.toNat_natCast, List.getD_eq_getElem?_getD, List.getElem?_eq_getElem (by omega), Option.getD_some, hx, hxx]
          rw [e]
        have hjz : decide ((j : Int) < (l0.length : Int)) = true := decide_eq_true (by omega)
        have hjn : decide (j < l0.length) = true := decide_eq_true hlt
        have hjp := eq_true (show (0 : Int) ≤ (j : Int) by omega)
        have hjq := eq_true (show (j : Int) < (l0.length : Int) by omega)
        have hip := eq_true (show (0 : Int) ≤ (i : Int) by omega)
        have hiq := eq_true (show (i : Int) < (l0.length : Int) by omega)
        have hcall := HP.out cc wr x (by have := HCC.out; omega) HB.out (by rw [← hxx]; exact List.getElem_mem hlt)
        cases hpx : p x with
        | false =>
          have HD2 := Aside0.mk (by have := HD.out.keep hlt (by rw [hxx]; exact hpx); rw [hxx] at this; exact this : DelInv p l0 (i + 1) (j + 1) (xs.set i x))
          rw [hpx] at hcall
          have HII := Aside0.mk (show (i : Nat) < l0.length by omega)
          clear hlen hij hx hxx HD hlt hpx
          go_wp2_with (first | (go_at_fn g; refine hcall.mono ?_; rintro e w7 ⟨rfl, hI7, hg7⟩; have n1_ := Aside0.mk (Kd.R_grown2 HO.out rfl hg7 (HNE.out HO.out)); have n2_ := Aside0.mk hI7; clear HO HB hI7 hg7 hcell; have HO := n1_; have HB := n2_; clear n1_ n2_; obtain ⟨hxi0, hfi0⟩ := Kd.R_celln 0 HO.out (i : Int) (by omega) (by have := HII.out; omega); (try rw [Int.toNat_natCast] at hxi0 hfi0)) | ((with_reducible refine gate_store (t := 2) (p := 33) rfl ?_); refine store_event (t := 2) (p := 33) (v := ?vo) (w1 := (w7.setCell ⟨gb, i, none⟩ (.int .i64 x))) ?hg ?ho ?hn ?hr ?_; (case ho => rfl); (case hg => rfl); (case hn => rfl); (case hr => first | (go_simp; done) | (go_simp; rfl)); intro w8 hw; have hp_ : Kd.R (Kd.int .i64) 2 w8 w0.heap.size P0 (.slice (some ⟨gb, 0, none⟩) l0.length c0) (xs.set i x) := (by rw [hw]; have h_ := (Kd.R_putg HO.out (i : Int) x).1; rw [Int.toNat_natCast] at h_; exact h_); have n1_ := Aside0.mk hp_; have n2_ := Aside0.mk (by rw [hw]; exact HST.out _ _ _ _ _ HG.out HB.out : I (cc + 1) w8); clear HO HB hxi0 hfi0 hw hp_; have HO := n1_; have HB := n2_; clear n1_ n2_))
          go_roundg (l0.length - (j + 1))
          case measure => have := HD2.out.2.2.1; omega
          case rel => exact ⟨i + 1, j + 1, xs.set i x, by have h_ := HII.out; exact congrArg (Value.int .i64) (show wrap64 ((i : Int) + 1) = ((i + 1 : Nat) : Int) by unfold wrap64; omega), by first | rfl | exact congrArg (Value.int .i64) (show (j : Int) + 1 = ((j + 1 : Nat) : Int) by omega), HD2.out.2.2.1, Nat.le_refl _, HD2, HO, ⟨⟨cc + 1, by have := HCC.out; omega, HB.out⟩⟩⟩
        | true =>
          have HD2 := Aside0.mk (HD.out.skip hlt (by rw [hxx]; exact hpx))
          rw [hpx] at hcall
          clear hlen hij hx hxx HD hlt hpx
          go_wp2_with (go_at_fn g; refine hcall.mono ?_; rintro e w7 ⟨rfl, hI7, hg7⟩; have n1_ := Aside0.mk (Kd.R_grown2 HO.out rfl hg7 (HNE.out HO.out)); have n2_ := Aside0.mk hI7; clear HO HB hI7 hg7 hcell; have HO := n1_; have HB := n2_; clear n1_ n2_)
          go_roundg (l0.length - (j + 1))
          case measure => have := HD2.out.2.2.1; omega
          case rel => exact ⟨i, j + 1, xs, rfl, by first | rfl | exact congrArg (Value.int .i64) (show (j : Int) + 1 = ((j + 1 : Nat) : Int) by omega), HD2.out.2.2.1, Nat.le_refl _, HD2, HO, ⟨⟨cc + 1, by have := HCC.out; omega, HB.out⟩⟩⟩
      · have ej : j = l0.length := by omega
        subst ej
        have hlen := HD.out.1
        have hij := HD.out.2.1
        have hc := HC.out
        have hjz : decide ((l0.length : Int) < (l0.length : Int)) = false := decide_eq_false (by omega)
        have hcut : ∀ W : World, (Instr.slice 22 (.slice (some ⟨gb, 0, none⟩) l0.length c0) (some (.int .i64 i)) none none).run Tryd.prog W = .ok (.slice (some ⟨gb, i, none⟩) (l0.length - i) (c0 - i)) W := by
          obtain ⟨i0, hi0, _, hsz, _⟩ := info_parts info2
          intro W
          have := cut_from (P := Tryd.prog) 22 2 .i64 Tryd.underlying22 hi0 1 hsz (some ⟨gb, 0, none⟩) l0.length c0 (i : Int) (by omega) (by omega) W
          rw [Int.toNat_natCast, if_neg (by omega)] at this
          rw [this]
          simp [Addr.add]
          all_goals (intro h_; omega)
        have hcut2 : ∀ W : World, (Instr.slice 22 (.slice (some ⟨gb, 0, none⟩) l0.length c0) none (some (.int .i64 i)) none).run Tryd.prog W = .ok (.slice (some ⟨gb, 0, none⟩) i c0) W := by
          obtain ⟨i0, hi0, _, hsz, _⟩ := info_parts info2
          have := cut_to (P := Tryd.prog) 22 2 .i64 Tryd.underlying22 hi0 (some ⟨gb, 0, none⟩) l0.length c0 (i : Int) (by omega) (by omega) hc
          rw [Int.toNat_natCast] at this
          exact this
        have hcl : ∀ ty, (Builtin.clear_ #[22] ty #[.slice (some ⟨gb, i, none⟩) (l0.length - i) (c0 - i)]).run Tryd.prog wr = .ok (.tuple #[]) (wr.setCells gb i (List.replicate (l0.length - i) (.int .i64 0))) := by
          intro ty
          refine Lib.run_clear_slice wr _ _ ty _ Tryd.underlying22 (fun w => by kernel_rfl) rfl rfl gb i _ _ (by omega) (fun t ht => ?_) (fun t ht => ?_)
          · have := (Kd.R_celln 0 HO.out ((i + t : Nat) : Int) (by omega) (by omega)).1
            rw [Int.toNat_natCast] at this
            rw [this]; rfl
          · have := (Kd.R_celln 0 HO.out ((i + t : Nat) : Int) (by omega) (by omega)).2
            rw [Int.toNat_natCast] at this
            exact this
        obtain ⟨ys, hy1, hy2, hy3, hy4⟩ := R_clearI (I cc) (fun W j v hW => HST.out _ _ _ _ _ HG.out hW) (l0.length - i) i wr xs HO.out HB.out (by omega)
        have HY1 := Aside0.mk (Kd.R_take hy1 (m := i) (by omega))
        have HY3 := Aside0.mk hy3
        have HY4 := Aside0.mk hy4
        have HF := Aside0.mk HD.out.2.2.2.1
        clear hy1 hy2 hy3 hy4 hlen hij hc HO HB
        go_wp2
        go_ret
        refine ⟨_, rfl, ?_, cc, by have := HCC.out; omega, HY4.out⟩
        have e := HF.out
        rw [List.take_length] at e
        rw [← e, ← HY3.out]
        exact HY1.out
  · have ha2 : l0.any p = false := by
      cases h : l0.any p with
      | true => exact absurd h ha
      | false => rfl
    obtain ⟨e1, e2⟩ := idxK_none p l0 0 ha2
    rw [e1] at HI
    rw [e2]
    clear hp hI hBI ho ha ha2 e1 e2
    go_enter Tryd.func39, Tryd.ntmps39
    go_wp2_with (go_at_call 60; refine HI.mono ?_; rintro e w1 ⟨rfl, ci, hci, hI1, hR1⟩; have HO := Aside0.mk hR1; have HB := Aside0.mk hI1; have HCI := Aside0.mk hci; clear hI1 hR1 hci)
    go_ret
    exact ⟨_, rfl, HO.out, ci, by have := HCI.out; omega, HB.out⟩
-- Boards that are played on, plain. emptyL isHexV isHexV_cells hex_small moverV chosenTo_all chosen_pair rd_get joinW decW (for 59)
theorem hex_setB {n : Nat} {l : List Int} (hv : isHexV (n : Int) l = true) (i : Nat) {v : Int} (h : v = 0 ∨ v = 1 ∨ v = 2) : isHexV (n : Int) (l.set i v) = true := by
  unfold isHexV at hv ⊢
  simp only [Bool.and_eq_true, Bool.not_eq_true'] at hv ⊢
  refine ⟨⟨hv.1.1, by rw [List.length_set]; exact hv.1.2⟩, ?_⟩
  rw [List.any_eq_false] at hv ⊢
  intro x hx
  rcases List.mem_or_eq_of_mem_set hx with h2 | h2
  · exact hv.2 x h2
  · subst h2
    rcases h with rfl | rfl | rfl <;> decide
theorem mover_cases {l : List Int} (h : moverV l ≠ 0) : (moverV l = 1 ∧ l.count 1 = l.count 2) ∨ (moverV l = 2 ∧ l.count 1 = l.count 2 + 1) := by
  unfold moverV at h ⊢
  by_cases h1 : l.count 1 = l.count 2
  · rw [if_pos h1]; exact .inl ⟨rfl, h1⟩
  · rw [if_neg h1] at h ⊢
    by_cases h2 : l.count 1 = l.count 2 + 1
    · rw [if_pos h2]; exact .inr ⟨rfl, h2⟩
    · rw [if_neg h2] at h; exact absurd rfl h
/-- A cell that is taken by the mover. -/
theorem board_child {n : Nat} {l : List Int} (hv : isHexV (n : Int) l = true) (hm : moverV l ≠ 0) {x : Int} (hx : x ∈ emptyL l) : isHexV (n : Int) (l.set x.toNat (moverV l)) = true ∧ moverV (l.set x.toNat (moverV l)) = 3 - moverV l ∧ (emptyL (l.set x.toNat (moverV l))).length + 1 = (emptyL l).length := by
  obtain ⟨h0, h1, h2⟩ := (chosen_pair (fun c => rd l c == 0) l.length).2 x hx
  have hi : x.toNat < l.length := by omega
  have hz : l[x.toNat] = 0 := by
    have h2 : rd l x = 0 := beq_iff_eq.1 h2
    have e : x = ((x.toNat : Nat) : Int) := by omega
    rw [e, rd_get l x.toNat hi] at h2
    exact h2
  have hc := fun (a b : Int) => List.count_set (a := a) (b := b) hi
  have hpos : 1 ≤ l.count 0 := List.count_pos_iff.2 (by rw [← hz]; exact List.getElem_mem hi)
  have e1 : (emptyL (l.set x.toNat (moverV l))).length = (l.set x.toNat (moverV l)).count 0 := chosenTo_all _ 0
  have e2 : (emptyL l).length = l.count 0 := chosenTo_all _ 0
  rcases mover_cases hm with ⟨hm, hq⟩ | ⟨hm, hq⟩
  · rw [hm] at e1 ⊢
    refine ⟨hex_setB hv _ (by omega), ?_, ?_⟩
    · unfold moverV
      rw [hc, hc, hz]
      simp
      omega
    · rw [e1, e2, hc, hz]
      simp
      omega
  · rw [hm] at e1 ⊢
    refine ⟨hex_setB hv _ (by omega), ?_, ?_⟩
    · unfold moverV
      rw [hc, hc, hz]
      simp
      omega
    · rw [e1, e2, hc, hz]
      simp
      omega
theorem join_flat : ∀ xs : List (List UInt8), Lib.join xs [] = xs.flatten
  | [] => by simp [Lib.join]
  | [a] => by simp [Lib.join]
  | a :: b :: r => by
    have ih := join_flat (b :: r)
    have e : Lib.join (a :: b :: r) [] = a ++ Lib.join (b :: r) [] := by simp [Lib.join, List.intercalate, List.intersperse]
    rw [e, ih]
    simp
theorem dec_cell {x : Int} (h : x = 0 ∨ x = 1 ∨ x = 2) : (decW x).data.toList = [UInt8.ofNat (48 + x.toNat)] := by
  rcases h with rfl | rfl | rfl <;> (unfold decW; rw [Lib.decDigits]; rfl)
theorem join_cells : ∀ l : List Int, (∀ x ∈ l, x = 0 ∨ x = 1 ∨ x = 2) → (joinW l ⟨#[]⟩).data.toList = l.map fun x => UInt8.ofNat (48 + x.toNat) := fun l h => by
  have e : (joinW l ⟨#[]⟩).data.toList = Lib.join ((l.map decW).map (·.data.toList)) [] := by simp [joinW]
  rw [e, join_flat, List.map_map]
  induction l with
  | nil => rfl
  | cons a r ih =>
    rw [List.map_cons, List.flatten_cons, List.map_cons, ih (fun x hx => h x (List.mem_cons_of_mem _ hx)) (by simp [joinW])]
    show (decW a).data.toList ++ _ = _
    rw [dec_cell (h a (List.mem_cons_self ..))]
    rfl
theorem map_inj_cells : ∀ l l' : List Int, (∀ x ∈ l, x = 0 ∨ x = 1 ∨ x = 2) → (∀ x ∈ l', x = 0 ∨ x = 1 ∨ x = 2) → (l.map fun x => UInt8.ofNat (48 + x.toNat)) = (l'.map fun x => UInt8.ofNat (48 + x.toNat)) → l = l'
  | [], [], _, _, _ => rfl
  | [], _ :: _, _, _, h => by simp at h
  | _ :: _, [], _, _, h => by simp at h
  | a :: r, b :: r', h1, h2, h => by
    rw [List.map_cons, List.map_cons] at h
    injection h with h3 h4
    have ih := map_inj_cells r r' (fun x hx => h1 x (List.mem_cons_of_mem _ hx)) (fun x hx => h2 x (List.mem_cons_of_mem _ hx)) h4
    have e : a = b := by
      rcases h1 a (List.mem_cons_self ..) with rfl | rfl | rfl <;> rcases h2 b (List.mem_cons_self ..) with rfl | rfl | rfl <;> first | rfl | (exact absurd h3 (by decide))
    rw [e, ih]
theorem key_inj {n : Nat} {l l' : List Int} (hv : isHexV (n : Int) l = true) (hv' : isHexV (n : Int) l' = true) (h : joinW l ⟨#[]⟩ = joinW l' ⟨#[]⟩) : l = l' := by
  have h1 := (isHexV_cells hv).2.2.2
  have h2 := (isHexV_cells hv').2.2.2
  have := congrArg (fun s : ByteArray => s.data.toList) h
  rw [join_cells l h1, join_cells l' h2] at this
  exact map_inj_cells l l' h1 h2 this
theorem key_size {n : Nat} {l : List Int} (hv : isHexV (n : Int) l = true) : (joinW l ⟨#[]⟩).size = l.length := by
  rw [Lib.size_eq, join_cells l (isHexV_cells hv).2.2.2, List.length_map]
theorem key_joined {n : Nat} {l : List Int} (hv : isHexV (n : Int) l = true) : impl_joined.f l ⟨#[]⟩ = some (joinW l ⟨#[]⟩) ∧ (joinW l ⟨#[]⟩).size ≤ maxLen := by
  have h64 := hex_small hv
  obtain ⟨h1, h8, hl, hx⟩ := isHexV_cells hv
  have hs := key_size hv
  have h1l : 1 ≤ l.length := by
    have : (1 : Int) ≤ (n : Int) * (n : Int) := by
      have := Int.mul_le_mul h1 h1 (by omega) (by omega : (0 : Int) ≤ n)
      simpa using this
    omega
  refine ⟨?_, by rw [hs]; unfold maxLen; omega⟩
  unfold impl_joined.f
  rw [if_pos ⟨h1l, by omega, fun x hx2 => by have := hx x hx2; omega, by rw [hs]; omega⟩]
-- What the finder reckons, as a function. HexVal OkB hexWinF hexEnd hexAny hexAny_some board_child mover_cases key_inj key_joined emptyL (for 36)
def winP (k : Nat) (n : Nat) (l : List Int) : Prop := ∃ v, hexWinF k (n : Int) (emptyL l).length l = some v
def winV (k : Nat) (n : Nat) (l : List Int) : Int := (hexWinF k (n : Int) (emptyL l).length l).getD 0
theorem any_congr_ {p q : Int → Bool} : ∀ l : List Int, (∀ x ∈ l, p x = q x) → l.any p = l.any q
  | [], _ => rfl
  | a :: r, h => by rw [List.any_cons, List.any_cons, h a (List.mem_cons_self ..), any_congr_ r (fun x hx => h x (List.mem_cons_of_mem _ hx))]
theorem winP_child {k n d : Nat} {l : List Int} (hv : isHexV (n : Int) l = true) (hm : moverV l ≠ 0) (hd : (emptyL l).length = d + 1) (hP : winP k n l) :
    (∀ x ∈ emptyL l, winP k n (l.set x.toNat (moverV l))) ∧ winV k n l = if (emptyL l).any (fun x => winV k n (l.set x.toNat (moverV l)) == moverV l) = true then moverV l else 3 - moverV l := by
  obtain ⟨v, hv2⟩ := hP
  have hlen : ∀ x ∈ emptyL l, (emptyL (l.set x.toNat (moverV l))).length = d := fun x hx => by
    have := (board_child hv hm hx).2.2
    omega
  unfold winV
  rw [hv2]
  rw [hd, hexWinF] at hv2
  obtain ⟨b, hb, hv2⟩ := Option.bind_eq_some_iff.1 hv2
  obtain ⟨h1, h2⟩ := hexAny_some hb
  refine ⟨fun x hx => ?_, ?_⟩
  · obtain ⟨u, hu⟩ := h1 x hx
    exact ⟨u, by rw [hlen x hx]; exact hu⟩
  · have e : ((emptyL l).any fun x => (hexWinF k (n : Int) (emptyL (l.set x.toNat (moverV l))).length (l.set x.toNat (moverV l))).getD 0 == moverV l) = (emptyL l).any fun x => (hexWinF k (n : Int) d (l.set x.toNat (moverV l))).getD 0 == moverV l := by
      refine any_congr_ _ (fun x hx => ?_)
      rw [hlen x hx]
    rw [e, ← h2]
    exact (Option.some.inj hv2).symm
theorem hexVal_of (k n : Nat) : HexVal n (winP k n) (fun l => (hexEnd k (n : Int) l).getD 0) (winV k n) where
  join := fun l hv ok he => by
    obtain ⟨v, hv2⟩ := ok.2
    rw [he] at hv2
    have hv2 : hexEnd k (n : Int) l = some v := hv2
    rw [hv2]
    unfold hexEnd at hv2
    obtain ⟨u, hu, h⟩ := Option.bind_eq_some_iff.1 hv2
    split at h
    · exact ⟨k, by rw [hu]; exact h⟩
    · cases h
  small := fun l hv ok => by
    have hm := mover_cases ok.1
    cases hd : (emptyL l).length with
    | zero =>
      obtain ⟨v, hv2⟩ := ok.2
      unfold winV
      rw [hv2]
      rw [hd] at hv2
      have hv2 : hexEnd k (n : Int) l = some v := hv2
      unfold hexEnd at hv2
      obtain ⟨u, hu, h⟩ := Option.bind_eq_some_iff.1 hv2
      split at h
      · rename_i hu2
        cases h
        exact hu2
      · cases h
    | succ d =>
      rw [(winP_child hv ok.1 hd ok.2).2]
      split <;> omega
  full := fun l hv ok he => by
    unfold winV
    rw [he]
    rfl
  step := fun l hv ok he => by
    cases hd : (emptyL l).length with
    | zero => exact absurd (List.eq_nil_of_length_eq_zero hd) he
    | succ d => exact (winP_child hv ok.1 hd ok.2).2
  key := fun l l' h1 h2 h => key_inj h1 h2 h
  joined := fun l h => key_joined h
  child := fun l x hv ok hx => by
    obtain ⟨a, b, c⟩ := board_child hv ok.1 hx
    cases hd : (emptyL l).length with
    | zero => rw [List.eq_nil_of_length_eq_zero hd] at hx; simp at hx
    | succ d => exact ⟨a, ⟨by rw [b]; rcases mover_cases ok.1 with ⟨h, _⟩ | ⟨h, _⟩ <;> rw [h] <;> decide, (winP_child hv ok.1 hd ok.2).1 x hx⟩, by rw [← hd]; exact c⟩
def hexOk (s : Int) (l : List Int) : Prop := isHexV s l = true ∧ moverV l ≠ 0 ∧ (emptyL l).length ≤ 9
instance (s : Int) (l : List Int) : Decidable (hexOk s l) := by unfold hexOk; exact inferInstance
/-! ### impl_HexMoves: function 12 -/
-- EXTERNAL: by hand
-- impl_hexCode impl_hexWins impl_HexWinner slices_DeleteFunc_int64_int64 impl_Hex_mover impl_Hex_cells impl_Hex_with winP winV hexVal_of hfind_all eg_hfind HWEnv isHexV_cells hexCnt goesF_ hexOk with_val mover_val cells_val moverV_range
theorem HWEnv.set {w0 : World} {gK gF gm n : Nat} {P : List Int → Prop} {Wv : List Int → Int} {N : Nat} {W : World} (h : HWEnv w0 gK gF gm n N P Wv W) {g j : Nat} (v : Value) (h1 : gK ≠ g ∧ gF ≠ g ∧ gm ≠ g) (h2 : w0.heap.size ≤ g) : HWEnv w0 gK gF gm n N P Wv (W.setCell ⟨g, j, none⟩ v) :=
  ⟨below_set h.below h2, blk_far (p := ⟨g, j, none⟩) h.hk h1.1 v, blk_far (p := ⟨g, j, none⟩) h.hf h1.2.1 v, by obtain ⟨D, e1, e2⟩ := h.memo; exact ⟨D, e1.setCell (a := ⟨g, j, none⟩) h1.2.2 v, e2⟩, h.ne, h.base⟩
theorem eg_hmpred : ∀ args w, (callFunc 41 args).run Tryd.prog w = .ok (.enter 41 args) w := enters_of Tryd.func41 (by kernel_rfl) rfl
theorem hexCnt8 {d f : Nat} (h : d ≤ 8) (hf : f ≤ 9) : 2 * f * hexCnt d + hexCnt d < maxLen := by
  have : ∀ d : Fin 9, ∀ f : Fin 10, 2 * f.val * hexCnt d.val + hexCnt d.val < maxLen := by decide +kernel
  exact this ⟨d, by omega⟩ ⟨f, by omega⟩
def hmPred.T1 : Bool × List (List Nat × List Nat) := (true, [([], []), ([], []), ([], []), ([], []), ([1, 2, 3], [1, 2, 3]), ([0, 4, 4], [0, 4]), ([], []), ([5, 6], [5, 6]), ([7, 5, 0, 1, 2, 3, 4, 5, 6, 7], [7])])
def hmPred.B1 : List Nat := [0, 0, 0, 0, 14, 31, 0, 127, 255]
theorem hmPred.tab1 : rtab .any (opsOf Tryd.f41 1) = hmPred.T1 := by kernel_rfl
theorem hmPred.bits1 : waitsOk hmPred.T1.2 hmPred.B1 = true := by kernel_rfl
set_option maxHeartbeats 4000000 in
set_option maxRecDepth 100000 in
theorem hmPred (w0 : World) (gK gF gm n : Nat) (P : List Int → Prop) (Wv : List Int → Int) (J : List Int → Int) (HV : HexVal n P J Wv) (l : List Int) (A : Option Addr) (c : Nat) (hv : isHexV (n : Int) l = true) (hok : OkB P l) (hA : Kd.C (Kd.int .i64) w0 A l.length l) (hc : l.length ≤ c) (d : Nat) (hd : (emptyL l).length ≤ d + 1)
    (g1 g5 g6 : Nat) (mv : Int) (hmv : moverV l = mv) (N : Nat) (W : World) (x : Int) (h1 : W.heap[g1]? = some (.cells #[.int .i64 (n : Int), .slice A l.length c] 28 (0, 0))) (h5 : W.heap[g5]? = some (.cells #[.func (.func 58) #[] #[.pointer (some ⟨gK, 0, none⟩), .pointer (some ⟨gF, 0, none⟩)]] 48 (0, 0))) (h6 : W.heap[g6]? = some (.cells #[.int .i64 mv] 2 (0, 0))) (hne : g1 ≠ gm ∧ g5 ≠ gm ∧ g6 ≠ gm)
    (hx : x ∈ emptyL l) (hE : HWEnv w0 gK gF gm n N P Wv W) (hN : N + hexCnt d < maxLen) :
    Calls Tryd.prog 41 #[.int .i64 x, .pointer (some ⟨g5, 0, none⟩), .pointer (some ⟨g1, 0, none⟩), .pointer (some ⟨g6, 0, none⟩)] W fun e W' => e = .returned (.bool (Wv (l.set x.toNat mv) != mv)) ∧ HWEnv w0 gK gF gm n (N + hexCnt d) P Wv W' ∧ W.grownBy W' (some gm) := by
  obtain ⟨x0, x1, _⟩ := (chosen_pair (fun c => rd l c == 0) l.length).2 x hx
  have hwv := with_val (m := mv) hv x0 x1
  obtain ⟨c1, c2, c3⟩ := HV.child l x hv hok hx
  rw [hmv] at c1 c2 c3
  have hlen : (l.set x.toNat mv).length = l.length := List.length_set ..
  have HIH := Aside0.mk (fun A' c' N' W' hC hc' hE' hN' => hfind_all w0 gK gF gm n P J Wv HV d (l.set x.toNat mv) A' c' N' W' c1 c2 (by omega) hC hc' hE' hN')
  have HWV := Aside0.mk hwv
  generalize l.set x.toNat mv = l2 at HIH HWV ⊢
  have HNB := Aside0.mk hN
  have HC := Aside0.mk hc
  have n1_ := Aside0.mk hE.drew
  have n2_ := Aside0.mk (blk_drew h1)
  have n3_ := Aside0.mk (blk_drew h5)
  have n4_ := Aside0.mk (blk_drew h6)
  have nA_ := Aside0.mk (Kd.C_below hA (below_drew1 hE.below))
  have HNE := Aside0.mk hne
  have HWD := Aside0.mk (show Below W.heap.size W W.drew from below_drew1 (Below.refl _ _))
  have hu := Tryd.underlying28
  clear h1 h5 h6 hne hx hE hN x0 x1 hwv c1 c2 c3 hlen hc hA hd hv hok HV hmv
  go_enter Tryd.func41, Tryd.ntmps41
  try go_wp2
  refine start_ (n := 9) (S := fun w' => w'.cell? ⟨g5, 0, none⟩ = some (.func (.func 58) #[] #[.pointer (some ⟨gK, 0, none⟩), .pointer (some ⟨gF, 0, none⟩)]) ∧ w'.cell? ⟨g1, 0, none⟩ = some (.int .i64 (n : Int)) ∧ w'.cell? ⟨g1, 1, none⟩ = some (.slice A l.length c) ∧ w'.cell? ⟨g6, 0, none⟩ = some (.int .i64 mv)) (ds := []) #[false, false, false, false, false, false, false, false, false] (by kernel_rfl) rfl rfl ⟨(blk_cell n3_.out 0).trans rfl, (blk_cell n2_.out 0).trans rfl, (blk_cell n2_.out 1).trans rfl, (blk_cell n4_.out 0).trans rfl⟩ (fun hHeld => ?_)
  refine with_tabW hmPred.tab1 hmPred.bits1 (fun HT_ HW_ => ?_)
  generalize hq_ : W.drew = wd_ at n1_ n2_ n3_ n4_ nA_ HWD hHeld ⊢
  clear hq_
  refine take_ (i := 0) (N := some 6) (v := ?_) (a' := ?_) (flg_ 9 1) rfl rfl (take_ofW HT_.out HW_.out (by kernel_rfl)) (fun _ _ _ h => h) (Or.inl ⟨by rfl, ?_⟩) hHeld ?_ ?_
  rotate_left
  · rintro w' ⟨s0, s1, s2, s3⟩
    go_simp
    with_reducible rfl
  rotate_left
  · simp only [Act.put, sz_, s0_, s1_, i64_w, i32_w]
    rfl
  refine take_ (i := 1) (N := some 7) (v := ?_) (a' := ?_) (flg_ 9 3) rfl rfl (take_ofW HT_.out HW_.out (by kernel_rfl)) (fun _ _ _ h => h) (Or.inl ⟨by rfl, ?_⟩) hHeld ?_ ?_
  rotate_left
  · rintro w' ⟨s0, s1, s2, s3⟩
    go_simp
    with_reducible rfl
  rotate_left
  · simp only [Act.put, sz_, s0_, s1_, i64_w, i32_w]
    rfl
  refine pure_ (i := 2) (N := some 8) (v := ?_) (a' := ?_) (flg_ 9 7) rfl rfl (any_of HT_.out (by kernel_rfl)) (fun _ _ _ h => h) (Or.inl ⟨by rfl, ?_⟩) ?_ ?_
  rotate_left
  · intro w'
    go_simp
    with_reducible rfl
  rotate_left
  · simp only [Act.put, sz_, s0_, s1_, i64_w, i32_w]
    rfl
  refine take_ (i := 3) (N := some 9) (v := ?_) (a' := ?_) (flg_ 9 15) rfl rfl (take_ofW HT_.out HW_.out (by kernel_rfl)) (fun _ _ _ h => h) (Or.inl ⟨by rfl, ?_⟩) hHeld ?_ ?_
  rotate_left
  · rintro w' ⟨s0, s1, s2, s3⟩
    go_simp
    with_reducible rfl
  rotate_left
  · simp only [Act.put, sz_, s0_, s1_, i64_w, i32_w]
    rfl
  refine take_ (i := 6) (N := some 12) (v := ?_) (a' := ?_) (flg_ 9 79) rfl rfl (take_ofW HT_.out HW_.out (by kernel_rfl)) (fun _ _ _ h => h) (Or.inl ⟨by rfl, ?_⟩) hHeld ?_ ?_
  rotate_left
  · rintro w' ⟨s0, s1, s2, s3⟩
    go_simp
    with_reducible rfl
  rotate_left
  · simp only [Act.put, sz_, s0_, s1_, i64_w, i32_w]
    rfl
  refine one_ (i := 4) (N := some 10) (flg_ 9 95) rfl rfl (one_of HT_.out (by kernel_rfl)) (by decide) (fun K hK => ?_)
  refine goes_ Tryd.func42 (by kernel_rfl) rfl #[.agg #[.int .i64 (n : Int), .slice A l.length c], .int .i64 x, .int .i64 mv] (by rfl) rfl rfl (by (try simp only [List.map_toArray, List.map_cons, List.map_nil]); first | done | rfl) ?_
  refine (impl_Hex_with.calls n A c l x mv n l2 _ nA_.out HC.out HWV.out).mono ?_
  rintro e wa_ ⟨v49, rfl, ho, hb⟩
  refine ⟨_, rfl, ?_⟩
  obtain ⟨A49, c49, e49⟩ := Kd.R_slice ho
  subst e49
  have HO2 := Aside0.mk ho
  have HE2 := Aside0.mk (n1_.out.step hb)
  have HX1 := Aside0.mk (blk_below n2_.out hb)
  have HX5 := Aside0.mk (blk_below n3_.out hb)
  have HX6 := Aside0.mk (blk_below n4_.out hb)
  have HW2 := Aside0.mk (below_step HWD.out hb)
  clear ho hb n1_ n2_ n3_ n4_ nA_ HWD
  refine hK.out _ _ ⟨(blk_cell HX5.out 0).trans rfl, (blk_cell HX1.out 0).trans rfl, (blk_cell HX1.out 1).trans rfl, (blk_cell HX6.out 0).trans rfl⟩ (fun hHeld => ?_)
  clear hK K
  refine norm_ (a' := ?_) ?_ ?_
  rotate_left
  · show Act.put _ (some 10) _ = _
    simp only [Act.put, sz_, s0_, s1_, i64_w, i32_w]
    rfl
  refine one_ (i := 5) (N := some 11) (flg_ 9 127) rfl rfl (one_of HT_.out (by kernel_rfl)) (by decide) (fun K hK => ?_)
  refine goesF_ (x := .tmp 6) (lb := #[.pointer (some ⟨gK, 0, none⟩), .pointer (some ⟨gF, 0, none⟩)]) eg_hfind #[.agg #[.int .i64 (n : Int), .slice A49 l2.length c49]] (by rfl) rfl rfl rfl (by (try simp only [List.map_toArray, List.map_cons, List.map_nil]); first | done | rfl) ?_
  refine (HIH.out A49 c49 N _ (Kd.R_reads' HO2.out).2.2 (Kd.R_reads' HO2.out).2.1 HE2.out HNB.out).mono ?_
  rintro e wb_ ⟨rfl, hE3, hG3⟩
  refine ⟨_, rfl, ?_⟩
  have HE3 := Aside0.mk hE3
  have HX1b := Aside0.mk (blk_grownB HX1.out hG3 HNE.out.1)
  have HX5b := Aside0.mk (blk_grownB HX5.out hG3 HNE.out.2.1)
  have HX6b := Aside0.mk (blk_grownB HX6.out hG3 HNE.out.2.2)
  have HG2 := Aside0.mk (grown_after_below HW2.out hG3)
  clear hE3 hG3 HO2 HE2 HX1 HX5 HX6 HW2
  refine hK.out _ _ ⟨(blk_cell HX5b.out 0).trans rfl, (blk_cell HX1b.out 0).trans rfl, (blk_cell HX1b.out 1).trans rfl, (blk_cell HX6b.out 0).trans rfl⟩ (fun hHeld => ?_)
  clear hK K
  refine norm_ (a' := ?_) ?_ ?_
  rotate_left
  · show Act.put _ (some 11) _ = _
    simp only [Act.put, sz_, s0_, s1_, i64_w, i32_w]
    rfl
  refine pure_ (i := 7) (N := some 13) (v := ?_) (a' := ?_) (flg_ 9 255) rfl rfl (any_of HT_.out (by kernel_rfl)) (fun _ _ _ h => h) (Or.inl ⟨by rfl, ?_⟩) ?_ ?_
  rotate_left
  · intro w'
    go_simp
    with_reducible rfl
  rotate_left
  · simp only [Act.put, sz_, s0_, s1_, i64_w, i32_w]
    rfl
  refine pure_ (i := 8) (N := some 5) (v := ?_) (a' := ?_) (flg_ 9 511) rfl rfl (any_of HT_.out (by kernel_rfl)) (fun _ _ _ h => h) (Or.inl ⟨by rfl, ?_⟩) ?_ ?_
  rotate_left
  · intro w'
    go_simp
    with_reducible rfl
  rotate_left
  · simp only [Act.put, sz_, s0_, s1_, i64_w, i32_w]
    rfl
  refine done_ (done_of HT_.out (by kernel_rfl)) ?_
  go_wp2_with fail
  go_ret
  exact ⟨rfl, HE3.out, HG2.out⟩
/-- What goes on from call to call while the empty cells are sifted. -/
def HmI (w0 : World) (gK gF gm n : Nat) (P : List Int → Prop) (Wv : List Int → Int) (l : List Int) (A : Option Addr) (c : Nat) (g1 g5 g6 : Nat) (mv : Int) (d : Nat) (wo : World) (i : Nat) (W : World) : Prop :=
  HWEnv w0 gK gF gm n (i * hexCnt d) P Wv W ∧ W.heap[g1]? = some (.cells #[.int .i64 (n : Int), .slice A l.length c] 28 (0, 0)) ∧ W.heap[g5]? = some (.cells #[.func (.func 58) #[] #[.pointer (some ⟨gK, 0, none⟩), .pointer (some ⟨gF, 0, none⟩)]] 48 (0, 0)) ∧ W.heap[g6]? = some (.cells #[.int .i64 mv] 2 (0, 0)) ∧ wo.heap.size ≤ W.heap.size
theorem hmI_pred (w0 : World) (gK gF gm n : Nat) (P : List Int → Prop) (Wv : List Int → Int) (J : List Int → Int) (HV : HexVal n P J Wv) (l : List Int) (A : Option Addr) (c : Nat) (hv : isHexV (n : Int) l = true) (hok : OkB P l) (hA : Kd.C (Kd.int .i64) w0 A l.length l) (hc : l.length ≤ c) (d : Nat) (hd : (emptyL l).length ≤ d + 1) (hd8 : d ≤ 8)
    (g1 g5 g6 : Nat) (mv : Int) (hmv : moverV l = mv) (hne : g1 ≠ gm ∧ g5 ≠ gm ∧ g6 ≠ gm) (wo : World) :
    ∀ i W x, i < 2 * (emptyL l).length → HmI w0 gK gF gm n P Wv l A c g1 g5 g6 mv d wo i W → x ∈ emptyL l → Calls Tryd.prog 41 (#[.int .i64 x] ++ #[.pointer (some ⟨g5, 0, none⟩), .pointer (some ⟨g1, 0, none⟩), .pointer (some ⟨g6, 0, none⟩)]) W fun e W' => e = .returned (.bool (Wv (l.set x.toNat mv) != mv)) ∧ HmI w0 gK gF gm n P Wv l A c g1 g5 g6 mv d wo (i + 1) W' ∧ W.grownBy W' (some gm) := by
  rintro i W x hi ⟨hE, k1, k5, k6, hz⟩ hx
  have e2 : i * hexCnt d + hexCnt d = (i + 1) * hexCnt d := by rw [Nat.succ_mul]
  have hb := hexCnt8 (d := d) (f := (emptyL l).length) hd8 (by omega)
  have hm : i * hexCnt d ≤ 2 * (emptyL l).length * hexCnt d := Nat.mul_le_mul_right _ (by omega)
  refine (hmPred w0 gK gF gm n P Wv J HV l A c hv hok hA hc d hd g1 g5 g6 mv hmv (i * hexCnt d) W x k1 k5 k6 hne hx hE (by omega)).mono ?_
  rintro e W' ⟨rfl, hE', hG⟩
  exact ⟨rfl, ⟨e2 ▸ hE', blk_grownB k1 hG hne.1, blk_grownB k5 hG hne.2.1, blk_grownB k6 hG hne.2.2, Nat.le_trans hz hG.size⟩, hG⟩
theorem hmI_set (w0 : World) (gK gF gm n : Nat) (P : List Int → Prop) (Wv : List Int → Int) (l : List Int) (A : Option Addr) (c : Nat) (g1 g5 g6 : Nat) (mv : Int) (d : Nat) (wo : World) (hgb : gK < wo.heap.size ∧ gF < wo.heap.size ∧ gm < wo.heap.size ∧ w0.heap.size ≤ wo.heap.size) (h1 : g1 < wo.heap.size) (h5 : g5 < wo.heap.size) (h6 : g6 < wo.heap.size) :
    ∀ i W gb j v, wo.heap.size ≤ gb → HmI w0 gK gF gm n P Wv l A c g1 g5 g6 mv d wo i W → HmI w0 gK gF gm n P Wv l A c g1 g5 g6 mv d wo i (W.setCell ⟨gb, j, none⟩ v) := by
  rintro i W gb j v hgb2 ⟨hE, k1, k5, k6, hz⟩
  refine ⟨hE.set v (by omega) (by omega), blk_far (p := ⟨gb, j, none⟩) k1 (show g1 ≠ gb by omega) v, blk_far (p := ⟨gb, j, none⟩) k5 (show g5 ≠ gb by omega) v, blk_far (p := ⟨gb, j, none⟩) k6 (show g6 ≠ gb by omega) v, ?_⟩
  simpa [World.setCell] using hz
/-- The moves that win, as the program sifts them. -/
def hexSift (k : Nat) (s : Int) (l : List Int) : List Int → Option (List Int)
  | [] => some []
  | x :: r => (hexWinF k s ((emptyL l).length - 1) (l.set x.toNat (moverV l))).bind fun v => (hexSift k s l r).bind fun t => some (if v = moverV l then x :: t else t)
theorem hexSift_some {k n : Nat} {l : List Int} (hch : ∀ x ∈ emptyL l, (emptyL (l.set x.toNat (moverV l))).length = (emptyL l).length - 1) : ∀ {r t : List Int}, (∀ x ∈ r, x ∈ emptyL l) → hexSift k (n : Int) l r = some t → (∀ x ∈ r, winP k n (l.set x.toNat (moverV l))) ∧ t = r.filter fun x => winV k n (l.set x.toNat (moverV l)) == moverV l
  | [], t, _, h => ⟨fun x hx => absurd hx (by simp), by simpa [hexSift] using h.symm⟩
  | x :: r, t, hr, h => by
    unfold hexSift at h
    obtain ⟨v, hv, h⟩ := Option.bind_eq_some_iff.1 h
    obtain ⟨t', ht', h⟩ := Option.bind_eq_some_iff.1 h
    have hx := hr x (List.mem_cons_self ..)
    obtain ⟨h1, h2⟩ := hexSift_some hch (fun y hy => hr y (List.mem_cons_of_mem _ hy)) ht'
    rw [← hch x hx] at hv
    have hwv : winV k n (l.set x.toNat (moverV l)) = v := by unfold winV; rw [hv]; rfl
    refine ⟨fun y hy => ?_, ?_⟩
    · rcases List.mem_cons.1 hy with rfl | hy
      · exact ⟨v, hv⟩
      · exact h1 y hy
    · rw [List.filter_cons, hwv, ← h2]
      rw [← Option.some.inj h]
      by_cases e : v = moverV l
      · rw [if_pos e, if_pos (beq_iff_eq.2 e)]
      · rw [if_neg e, if_neg (fun h => e (beq_iff_eq.1 h))]
def impl_HexMoves.f (k : Nat) (s : Int) (l : List Int) : Option (List Int × Int) := (impl_hexCode.f s l).bind fun c => if c = 0 then (if hexOk s l then (hexWinF k s (emptyL l).length l).bind fun _ => (hexSift k s l (emptyL l)).bind fun t => some (t, 0) else none) else some ([], c)
set_option maxHeartbeats 8000000 in
set_option maxRecDepth 100000 in
theorem impl_HexMoves.calls (k : Nat) (a0 : Int) (A : Option Addr) (c : Nat) (l : List Int) (r1 : List Int) (r2 : Int) (w : World) (hr0 : Kd.C (Kd.int .i64) w A l.length l) (hc0 : l.length ≤ c) (h : impl_HexMoves.f k a0 l = some (r1, r2)) :
    Calls Tryd.prog 12 #[.agg #[.int .i64 a0, .slice A l.length c]] w fun e w' => ∃ v0_ : Value, e = .returned (.tuple #[v0_, .int .i64 r2]) ∧ Kd.R (Kd.int .i64) 2 w' w.heap.size (fun _ => True) v0_ r1 ∧ Below w.heap.size w w' := by
  unfold impl_HexMoves.f at h
  obtain ⟨cd, hcd, h⟩ := Option.bind_eq_some_iff.1 h
  have HCD := Aside0.mk hcd
  have HA := Aside0.mk hr0
  have HC := Aside0.mk hc0
  have HB := Aside0.mk (Below.refl w.heap.size w)
  have hu := Tryd.underlying28
  have hrf := fun (w : World) (a : Addr) (m : Mode) (f : Fn) (t b : Array Value) => @run_store_func Tryd.prog w a m f t b
  clear hr0 hc0 hcd
  by_cases hz : cd = 0
  · subst hz
    rw [if_pos rfl] at h
    split at h
    case isFalse => cases h
    rename_i hok
    obtain ⟨v, hv, h⟩ := Option.bind_eq_some_iff.1 h
    obtain ⟨t, ht, h⟩ := Option.bind_eq_some_iff.1 h
    simp only [Option.some.injEq, Prod.mk.injEq] at h
    obtain ⟨rfl, rfl⟩ := h
    obtain ⟨o1, o2, o3⟩ := hok
    obtain ⟨n, rfl⟩ : ∃ n : Nat, a0 = (n : Int) := ⟨a0.toNat, by have := (isHexV_cells o1).1; omega⟩
    have h64 := hex_small o1
    have hts := (hexSift_some (fun x hx => by have := (board_child o1 o2 hx).2.2; omega) (fun x hx => hx) ht).2
    have HTS := Aside0.mk hts
    have HV1 := Aside0.mk o1
    have HOK := Aside0.mk (show OkB (winP k n) l from ⟨o2, v, hv⟩)
    have HO3 := Aside0.mk o3
    have HMV := Aside0.mk (mover_val o1 o2)
    have HCE := Aside0.mk (cells_val o1)
    have H64 := Aside0.mk h64
    obtain ⟨mv, hmve⟩ : ∃ mv, moverV l = mv := ⟨_, rfl⟩
    have HME := Aside0.mk hmve
    rw [hmve] at HMV HTS
    clear o1 o2 o3 hv ht hts h64 hmve
    go_enter Tryd.func12, Tryd.ntmps12
    go_wp2_with (first | ((with_reducible refine gate_dst (N := 1) rfl ?_); refine box_event ?hg (N := 1) ?hd (cs := #[.int .i64 (n : Int), .slice A l.length c]) (t := 28) ?hr ?_; (case hd => rfl); (case hg => rfl); (case hr => first | (go_simp; done) | (go_simp; rfl)); intro g1 hg_ w_ hbox hb; have HX1 := Aside0.mk hbox; have HG1 := Aside0.mk (show w.heap.size ≤ g1 by have := below_size HB.out; omega); clear hbox hg_; have nHB_ := Aside0.mk (below_step HB.out hb); clear HB hb; have HB := nHB_; clear nHB_; have hc10 := (blk_cell HX1.out 0).trans rfl; have hc11 := (blk_cell HX1.out 1).trans rfl) | (go_at_call 35; refine (impl_hexCode.calls (n : Int) A c l 0 _ (Kd.C_below HA.out HB.out) HC.out HCD.out).mono ?_; rintro e w_ ⟨rfl, hb⟩; (try clear hc10); (try clear hc11); have nHB_ := Aside0.mk (below_step HB.out hb); have nHX1_ := Aside0.mk (blk_below HX1.out hb); clear HB HX1 hb; have HB := nHB_; have HX1 := nHX1_; clear nHB_ nHX1_; have hc10 := (blk_cell HX1.out 0).trans rfl; have hc11 := (blk_cell HX1.out 1).trans rfl) | (go_at_call 36; have HAW := Aside0.mk (Kd.C_below HA.out HB.out); refine (impl_hexWins.calls n (winP k n) (winV k n) _).mono ?_; rintro e w_ ⟨gK, gF, gm, rfl, hE⟩; (try clear hc10); (try clear hc11); have HBW := Aside0.mk HB.out; have HLT := Aside0.mk (show g1 < gm ∧ w.heap.size ≤ gm by have := blk_lt HX1.out; have := hE.base; have := below_size HB.out; omega); have hb := hE.below; have HE := Aside0.mk hE; clear hE; have nHB_ := Aside0.mk (below_step HB.out hb); have nHX1_ := Aside0.mk (blk_below HX1.out hb); clear HB HX1 hb; have HB := nHB_; have HX1 := nHX1_; clear nHB_ nHX1_; have hc10 := (blk_cell HX1.out 0).trans rfl; have hc11 := (blk_cell HX1.out 1).trans rfl) | ((with_reducible refine gate_dst (N := 5) rfl ?_); refine box_event ?hg (N := 5) ?hd (cs := #[.nilFunc]) (t := 48) ?hr ?_; (case hd => rfl); (case hg => rfl); (case hr => first | (go_simp; done) | (go_simp; rfl)); have HE0 := Aside0.mk HE.out; intro g5 hg_ w_ hbox hb; have HX5 := Aside0.mk hbox; have HG5 := Aside0.mk (show w.heap.size ≤ g5 ∧ g1 ≠ g5 by have := below_size HB.out; have := blk_lt HX1.out; omega); (try clear hc10); (try clear hc11); have HG5z := Aside0.mk hg_; clear hbox hg_; have nHE_ := Aside0.mk (HE.out.step hb); clear HE; have HE := nHE_; clear nHE_; have nHB_ := Aside0.mk (below_step HB.out hb); have nHX1_ := Aside0.mk (blk_below HX1.out hb); clear HB HX1 hb; have HB := nHB_; have HX1 := nHX1_; clear nHB_ nHX1_; have hc10 := (blk_cell HX1.out 0).trans rfl; have hc11 := (blk_cell HX1.out 1).trans rfl; have hc50 := (blk_cell HX5.out 0).trans rfl; have HG5m := Aside0.mk (show gK ≠ g5 ∧ gF ≠ g5 ∧ gm ≠ g5 by have := blk_lt HE0.out.hk; have := blk_lt HE0.out.hf; have := HE0.out.memo.lt; have := HG5z.out; omega); have HG5b := Aside0.mk (Nat.le_trans (k := g5) HE0.out.below.size (by have := HG5z.out; omega))) | ((with_reducible refine gate_store (t := 48) (p := 5) rfl ?_); have hfz_ := blk_frozen HX5.out 0; refine store_event (t := 48) (p := 5) (v := .tmp 13) (w1 := (w_.setCell ⟨g5, 0, none⟩ (.func (.func 58) #[] #[.pointer (some ⟨gK, 0, none⟩), .pointer (some ⟨gF, 0, none⟩)]))) ?hg ?ho ?hn ?hr ?_; (case ho => rfl); (case hg => rfl); (case hn => rfl); (case hr => first | (go_simp; done) | (go_simp; rfl)); intro w2_ hw_; clear hfz_; have nHB_ := Aside0.mk ((below_set HB.out HG5.out.1 : Below w.heap.size w (w_.setCell ⟨g5, 0, none⟩ (.func (.func 58) #[] #[.pointer (some ⟨gK, 0, none⟩), .pointer (some ⟨gF, 0, none⟩)])))); have nHX1_ := Aside0.mk (blk_far (p := ⟨g5, 0, none⟩) HX1.out (show g1 ≠ g5 by have := HG5.out; omega) (.func (.func 58) #[] #[.pointer (some ⟨gK, 0, none⟩), .pointer (some ⟨gF, 0, none⟩)])); have nHX5_ := Aside0.mk (blk_put HX5.out 0 (.func (.func 58) #[] #[.pointer (some ⟨gK, 0, none⟩), .pointer (some ⟨gF, 0, none⟩)]) rfl); replace nHB_ := nHB_.out; rw [← hw_] at nHB_; replace nHX1_ := nHX1_.out; rw [← hw_] at nHX1_; replace nHX5_ := nHX5_.out; rw [← hw_] at nHX5_; (try clear hc10); (try clear hc11); (try clear hc50); have nHE_ := Aside0.mk (HE.out.set (j := 0) (.func (.func 58) #[] #[.pointer (some ⟨gK, 0, none⟩), .pointer (some ⟨gF, 0, none⟩)]) HG5m.out HG5b.out); replace nHE_ := nHE_.out; rw [← hw_] at nHE_; clear HE; have HE := Aside0.mk nHE_; clear nHE_; clear hw_ HB HX1 HX5; have HB := Aside0.mk nHB_; have HX1 := Aside0.mk nHX1_; have HX5 := Aside0.mk nHX5_; clear nHB_ nHX1_ nHX5_; have hc10 := (blk_cell HX1.out 0).trans rfl; have hc11 := (blk_cell HX1.out 1).trans rfl; have hc50 := (blk_cell HX5.out 0).trans rfl) | (go_at_call 38; refine (impl_Hex_mover.calls n A c l mv true _ (Kd.C_below HA.out HB.out) HC.out HMV.out).mono ?_; rintro e w_ ⟨rfl, hb⟩; (try clear hc10); (try clear hc11); (try clear hc50); have nHB_ := Aside0.mk (below_step HB.out hb); have nHX1_ := Aside0.mk (blk_below HX1.out hb); have nHX5_ := Aside0.mk (blk_below HX5.out hb); have nHE_ := Aside0.mk (HE.out.step hb); clear HE; have HE := nHE_; clear nHE_; clear HB HX1 HX5 hb; have HB := nHB_; have HX1 := nHX1_; have HX5 := nHX5_; clear nHB_ nHX1_ nHX5_; have hc10 := (blk_cell HX1.out 0).trans rfl; have hc11 := (blk_cell HX1.out 1).trans rfl; have hc50 := (blk_cell HX5.out 0).trans rfl) | ((with_reducible refine gate_dst (N := 6) rfl ?_); refine box_event ?hg (N := 6) ?hd (cs := #[.int .i64 0]) (t := 2) ?hr ?_; (case hd => rfl); (case hg => rfl); (case hr => first | (go_simp; done) | (go_simp; rfl)); have HE1 := Aside0.mk HE.out; intro g6 hg_ w_ hbox hb; have HX6 := Aside0.mk hbox; have HG6 := Aside0.mk (show w.heap.size ≤ g6 ∧ g1 ≠ g6 ∧ g5 ≠ g6 by have := below_size HB.out; have := blk_lt HX1.out; have := blk_lt HX5.out; omega); (try clear hc10); (try clear hc11); (try clear hc50); have HG6z := Aside0.mk hg_; clear hbox hg_; have nHE_ := Aside0.mk (HE.out.step hb); clear HE; have HE := nHE_; clear nHE_; have nHB_ := Aside0.mk (below_step HB.out hb); have nHX1_ := Aside0.mk (blk_below HX1.out hb); have nHX5_ := Aside0.mk (blk_below HX5.out hb); clear HB HX1 HX5 hb; have HB := nHB_; have HX1 := nHX1_; have HX5 := nHX5_; clear nHB_ nHX1_ nHX5_; have hc10 := (blk_cell HX1.out 0).trans rfl; have hc11 := (blk_cell HX1.out 1).trans rfl; have hc50 := (blk_cell HX5.out 0).trans rfl; have hc60 := (blk_cell HX6.out 0).trans rfl; have HG6m := Aside0.mk (show gK ≠ g6 ∧ gF ≠ g6 ∧ gm ≠ g6 by have := blk_lt HE1.out.hk; have := blk_lt HE1.out.hf; have := HE1.out.memo.lt; have := HG6z.out; omega); have HG6b := Aside0.mk (Nat.le_trans (k := g6) HE1.out.below.size (by have := HG6z.out; omega))) | ((with_reducible refine gate_store (t := 2) (p := 6) rfl ?_); have hfz_ := blk_frozen HX6.out 0; refine store_event (t := 2) (p := 6) (v := .tmp 17) (w1 := (w_.setCell ⟨g6, 0, none⟩ (.int .i64 mv))) ?hg ?ho ?hn ?hr ?_; (case ho => rfl); (case hg => rfl); (case hn => rfl); (case hr => first | (go_simp; done) | (go_simp; rfl)); intro w2_ hw_; clear hfz_; have nHB_ := Aside0.mk ((below_set HB.out HG6.out.1 : Below w.heap.size w (w_.setCell ⟨g6, 0, none⟩ (.int .i64 mv)))); have nHX1_ := Aside0.mk (blk_far (p := ⟨g6, 0, none⟩) HX1.out (show g1 ≠ g6 by have := HG6.out; omega) (.int .i64 mv)); have nHX5_ := Aside0.mk (blk_far (p := ⟨g6, 0, none⟩) HX5.out (show g5 ≠ g6 by have := HG6.out; omega) (.int .i64 mv)); have nHX6_ := Aside0.mk (blk_put HX6.out 0 (.int .i64 mv) rfl); replace nHB_ := nHB_.out; rw [← hw_] at nHB_; replace nHX1_ := nHX1_.out; rw [← hw_] at nHX1_; replace nHX5_ := nHX5_.out; rw [← hw_] at nHX5_; replace nHX6_ := nHX6_.out; rw [← hw_] at nHX6_; (try clear hc10); (try clear hc11); (try clear hc50); (try clear hc60); have nHE_ := Aside0.mk (HE.out.set (j := 0) (.int .i64 mv) HG6m.out HG6b.out); replace nHE_ := nHE_.out; rw [← hw_] at nHE_; clear HE; have HE := Aside0.mk nHE_; clear nHE_; clear hw_ HB HX1 HX5 HX6; have HB := Aside0.mk nHB_; have HX1 := Aside0.mk nHX1_; have HX5 := Aside0.mk nHX5_; have HX6 := Aside0.mk nHX6_; clear nHB_ nHX1_ nHX5_ nHX6_; have hc10 := (blk_cell HX1.out 0).trans rfl; have hc11 := (blk_cell HX1.out 1).trans rfl; have hc50 := (blk_cell HX5.out 0).trans rfl; have hc60 := (blk_cell HX6.out 0).trans rfl) | (go_at_call 40; refine (impl_Hex_cells.calls n A c l 0 (emptyL l) _ (Kd.C_below HA.out HB.out) HC.out HCE.out).mono ?_; rintro e w_ ⟨v31, rfl, ho, hb⟩; (try clear hc10); (try clear hc11); (try clear hc50); (try clear hc60); have nHB_ := Aside0.mk (below_step HB.out hb); have nHX1_ := Aside0.mk (blk_below HX1.out hb); have nHX5_ := Aside0.mk (blk_below HX5.out hb); have nHX6_ := Aside0.mk (blk_below HX6.out hb); have HEo := Aside0.mk HE.out; have nHE_ := Aside0.mk (HE.out.step hb); clear HE; have HE := nHE_; clear nHE_; have HO := Aside0.mk ho; have HBo := Aside0.mk HB.out; have HX1o := Aside0.mk HX1.out; have HX5o := Aside0.mk HX5.out; have HX6o := Aside0.mk HX6.out; clear ho; have HZ31 := Aside0.mk hb.size; clear HB HX1 HX5 HX6 hb; have HB := nHB_; have HX1 := nHX1_; have HX5 := nHX5_; have HX6 := nHX6_; clear nHB_ nHX1_ nHX5_ nHX6_; have hc10 := (blk_cell HX1.out 0).trans rfl; have hc11 := (blk_cell HX1.out 1).trans rfl; have hc50 := (blk_cell HX5.out 0).trans rfl; have hc60 := (blk_cell HX6.out 0).trans rfl) | (go_at_call 39; refine (slices_DeleteFunc_int64_int64.callsI 41 #[.pointer (some ⟨g5, 0, none⟩), .pointer (some ⟨g1, 0, none⟩), .pointer (some ⟨g6, 0, none⟩)] (fun x => winV k n (l.set x.toNat mv) != mv) eg_hmpred (HmI _ gK gF gm n (winP k n) (winV k n) l A c g1 g5 g6 mv ((emptyL l).length - 1) w2_) gm (fun _ => True) v31 (emptyL l) w2_ _ ⟨by rw [Nat.zero_mul]; exact HE.out, HX1.out, HX5.out, HX6.out, HZ31.out⟩ (hmI_pred _ gK gF gm n (winP k n) (winV k n) _ (hexVal_of k n) l A c HV1.out HOK.out HAW.out HC.out ((emptyL l).length - 1) (by omega) (by have := HO3.out; omega) g1 g5 g6 mv HME.out (by have := HLT.out; have := HG5m.out; have := HG6m.out; omega) w2_) (hmI_set _ gK gF gm n (winP k n) (winV k n) l A c g1 g5 g6 mv ((emptyL l).length - 1) w2_ ⟨blk_lt HEo.out.hk, blk_lt HEo.out.hf, HEo.out.memo.lt, HEo.out.below.size⟩ (blk_lt HX1o.out) (blk_lt HX5o.out) (blk_lt HX6o.out)) HEo.out.memo.lt (fun i W h => h.2.2.2.2) HO.out (by have := HO3.out; omega)).mono ?_; rintro e w32 ⟨v32, rfl, ho, i, hi, hI⟩; have HO2 := Aside0.mk ho; have HI := Aside0.mk hI; clear ho hi hI))
    go_ret2
    exact ⟨_, rfl, by rw [HTS.out]; have e : (fun x : Int => !(winV k n (l.set x.toNat mv) != mv)) = fun x => winV k n (l.set x.toNat mv) == mv := by { funext x; simp [bne] }; rw [← e]; exact Kd.R_lower HO2.out (below_size HBo.out), below_step HBW.out HI.out.1.below⟩
  · rw [if_neg hz] at h
    simp only [Option.some.injEq, Prod.mk.injEq] at h
    obtain ⟨rfl, rfl⟩ := h
    have hcz : (cd != 0) = true := bne_iff_ne.mpr hz
    clear hz
    go_enter Tryd.func12, Tryd.ntmps12
    go_wp2_with (first | ((with_reducible refine gate_dst (N := 1) rfl ?_); refine box_event ?hg (N := 1) ?hd (cs := #[.int .i64 a0, .slice A l.length c]) (t := 28) ?hr ?_; (case hd => rfl); (case hg => rfl); (case hr => first | (go_simp; done) | (go_simp; rfl)); intro g1 hg_ w_ hbox hb; have HX1 := Aside0.mk hbox; have HG1 := Aside0.mk (show w.heap.size ≤ g1 by have := below_size HB.out; omega); clear hbox hg_; have nHB_ := Aside0.mk (below_step HB.out hb); clear HB hb; have HB := nHB_; clear nHB_; have hc10 := (blk_cell HX1.out 0).trans rfl; have hc11 := (blk_cell HX1.out 1).trans rfl) | (go_at_call 35; refine (impl_hexCode.calls a0 A c l _ _ (Kd.C_below HA.out HB.out) HC.out HCD.out).mono ?_; rintro e w_ ⟨rfl, hb⟩; (try clear hc10); (try clear hc11); have nHB_ := Aside0.mk (below_step HB.out hb); have nHX1_ := Aside0.mk (blk_below HX1.out hb); clear HB HX1 hb; have HB := nHB_; have HX1 := nHX1_; clear nHB_ nHX1_; have hc10 := (blk_cell HX1.out 0).trans rfl; have hc11 := (blk_cell HX1.out 1).trans rfl))
    go_ret2
    exact ⟨_, rfl, Kd.R_nil _ _ _ _ _, HB.out⟩
/-! ### laws_markInt64S: function 15 -/
def laws_markInt64S.l0 : Nat → List Int → Int → Int → Option (Int × List Int)
 | 0, _, _, _ => none
 | k + 1, x0, x1, x5 => if x5 < (x0.length : Int) then (if 0 ≤ x5 then (laws_markInt64S.l0 k (x0.set (x5 : Int).toNat x1) (wrap64 (x1 + 1)) (wrap64 (x5 + 1))) else (none)) else (some (x1, x0))
def laws_markInt64S.f (k : Nat) (l0 : List Int) (a1 : Int) : Option (Int × List Int) := laws_markInt64S.l0 k l0 a1 0
set_option maxHeartbeats 8000000 in
set_option maxRecDepth 100000 in
theorem laws_markInt64S.calls (k : Nat) (P0_ : Nat → Prop) (u9000_ : Value) (l0 : List Int) (a1 : Int) (r1 : Int) (r2 : List Int) (w0 w : World) (hB : Below w0.heap.size w0 w) (ho0 : Kd.R (Kd.int .i64) 2 w w0.heap.size P0_ u9000_ l0) (h : laws_markInt64S.f k l0 a1 = some (r1, r2)) :
  Calls Tryd.prog 15 #[u9000_, .int .i64 a1] w fun e w' => e = .returned (.int .i64 r1) ∧ Kd.R (Kd.int .i64) 2 w' w0.heap.size (fun k_ => (P0_ k_ ∨ w.heap.size ≤ k_)) u9000_ r2 ∧ Below w0.heap.size w0 w' ∧ Kept w w' (fun k_ => P0_ k_) := by
 have HO0 := Aside0.mk (show Kd.R (Kd.int .i64) 2 w w0.heap.size (fun k_ => (P0_ k_ ∨ w.heap.size ≤ k_)) u9000_ l0 from Kd.R_mono ho0 (fun k_ hk => (.inl hk)))
 have HK := Aside0.mk (Kept.refl w (fun k_ => P0_ k_))
 have HW0 := Aside0.mk hB.size
 have HB := Aside0.mk hB
 clear hB
 have H : (laws_markInt64S.l0 k l0 a1 0) = some (r1, r2) := h
 clear h
 have H' := Aside0.mk H
 clear H
 go_enter Tryd.func15, Tryd.ntmps15
 go_wp2
 go_loopg [1, 5] k (fun kq v1 v5 w' => ∃ (x0_1 : List Int) (x1_1 : Int) (x5_1 : Int), v1 = .int .i64 x1_1 ∧ v5 = .int .i64 x5_1 ∧ Aside0 (laws_markInt64S.l0 kq x0_1 x1_1 x5_1 = some (r1, r2)) ∧ Aside0 (kq ≤ k) ∧ Aside0 (Kd.R (Kd.int .i64) 2 w' w0.heap.size (fun k_ => (P0_ k_ ∨ w.heap.size ≤ k_)) u9000_ x0_1) ∧ Aside0 (Kept w w' (fun k_ => P0_ k_)) ∧ Aside0 (Below w0.heap.size w0 w'))
 case atStart => exact ⟨(l0), (a1), (0), (by first | rfl | (simp; done) | (simp [*]; done)), (by first | rfl | (simp; done) | (simp [*]; done)), H', ⟨Nat.le_refl _⟩, ⟨by (with_reducible repeat (first | apply Kd.R_alloc | apply Kd.R_drewN | apply Kd.R_drew)); exact HO0.out⟩, ⟨by repeat (first | (with_reducible first | exact HK.out | apply Kept.alloc | apply Kept.drewN | apply Kept.drew) | exact HK.out)⟩, ⟨by repeat (first | (with_reducible first | exact HB.out | apply below_alloc | apply pw_below_drewN | apply below_drew1) | exact HB.out)⟩⟩
 case round =>
  clear H'
  (try clear c1); (try clear p2)
  obtain ⟨x0_1, x1_1, x5_1, rfl, rfl, HA, HK1, HO_0, HK, HB⟩ := hrel
  cases gk with
  | zero => exact absurd HA.out (by simp [laws_markInt64S.l0])
  | succ k1 =>
   have H := HA.out
   clear HA
   simp only [laws_markInt64S.l0] at H
   by_cases c3 : x5_1 < (x0_1.length : Int)
   ·rw [if_pos c3] at H
    have c3b0 : decide (x5_1 < (x0_1.length : Int)) = true := decide_eq_true c3
    clear c3
    by_cases c4 : 0 ≤ x5_1
    ·rw [if_pos c4] at H
     have c4b0 : decide (0 ≤ x5_1) = true := decide_eq_true c4
     clear c4
     obtain ⟨y321, hy321⟩ : ∃ y_ : List Int, y_ = (x0_1.set (x5_1 : Int).toNat x1_1) := ⟨_, rfl⟩
     replace H : (laws_markInt64S.l0 k1 y321 (wrap64 (x1_1 + 1)) (wrap64 (x5_1 + 1))) = some (r1, r2) := by first | (rw [hy321]; with_reducible exact H) | (have H2_ := (Option.bind_some _ _).symm.trans H; rw [hy321]; with_reducible exact H2_) | (have H2_ := (Option.bind_some _ _).symm.trans H; with_reducible exact H2_) | with_reducible exact H | (rw [hy321]; exact H) | exact H
     have Ny321 := Aside0.mk hy321
     clear hy321
     have H' := Aside0.mk H
     clear H
     obtain ⟨Ao6, co6, eo6⟩ := Kd.R_slice HO_0.out
     subst eo6
     have p5 : 0 ≤ (x5_1 : Int) := oda
     have q5 : (x5_1 : Int) < ((x0_1.length : Int) : Int) := oda
     obtain ⟨go5, co5, eo5, gb5, gl5, cl5, HG5⟩ := Kd.R_form HO_0.out (by omega)
     (first | cases eo5 | (injection eo5 with ea_ en_ ec_; (first | subst ea_ | (injection ea_ with ea_; subst ea_)); subst ec_; clear en_))
     have GB5 := Aside0.mk gb5
     have GG5 := Aside0.mk HG5
     clear gb5 gl5 HG5
     have HMgo5 := Aside0.mk (show (P0_ go5 ∨ w.heap.size ≤ go5) from (HO_0.out.1 _ rfl))
     obtain ⟨hx5_0, hf5_0⟩ := Kd.R_celln 0 HO_0.out (x5_1 : Int) p5 q5
     replace p5 := eq_true p5
     replace q5 := eq_true q5
     have HP7 := Kd.R_putg HO_0.out (x5_1 : Int) x1_1
     go_wp2_with (first | ((with_reducible refine gate_store (t := 2) (p := 15) rfl ?_); refine store_event (t := 2) (p := 15) (v := ?vo_w8) (w1 := (wr.setCell ⟨go5, (x5_1 : Int).toNat, none⟩ (.int .i64 x1_1))) ?hg ?ho ?hn ?hr ?_; (case ho => rfl); (case hg => rfl); (case hn => rfl); (case hr => first | (go_simp; done) | (go_simp; rfl)); intro w8 hw; have hg : wr.grownBy w8 (some go5) := (by rw [hw]; exact HP7.2); have hp_ : Kd.R (Kd.int .i64) 2 w8 w0.heap.size (fun k_ => (P0_ k_ ∨ w.heap.size ≤ k_)) (.slice (some ⟨go5, 0, none⟩) x0_1.length co6) y321 := (by rw [hw, Ny321.out]; exact HP7.1); clear HP7; have n0_ := Aside0.mk (hp_); have n1_ := Aside0.mk ((by rw [hw]; exact below_set (HB.out) GB5.out : Below w0.heap.size w0 w8)); have n2_ := Aside0.mk (Kept.of_grown (S := (fun k_ => P0_ k_)) hg (by repeat (first | (with_reducible first | exact HK.out | apply Kept.alloc | apply Kept.drewN | apply Kept.drew) | exact HK.out)) (fun k_ e_ => (HO_0.out.1 k_ e_))); clear HO_0; clear HB; clear HK; have HO_0 := n0_; have HB := n1_; have HK := n2_; clear n0_ n1_ n2_; clear hg hw hp_))
     go_roundg k1
     case measure => have := HK1.out; omega
     case rel => exact ⟨(y321), (wrap64 (x1_1 + 1)), (wrap64 (x5_1 + 1)), (by first | rfl | (simp; done) | (simp [*]; done)), (by first | rfl | (simp; done) | (simp [*]; done)), H', ⟨by have := HK1.out; omega⟩, ⟨by (with_reducible repeat (first | apply Kd.R_alloc | apply Kd.R_drewN | apply Kd.R_drew)); exact HO_0.out⟩, ⟨by repeat (first | (with_reducible first | exact HK.out | apply Kept.alloc | apply Kept.drewN | apply Kept.drew) | exact HK.out)⟩, ⟨by repeat (first | (with_reducible first | exact HB.out | apply below_alloc | apply pw_below_drewN | apply below_drew1) | exact HB.out)⟩⟩
    ·rw [if_neg c4] at H
     exact absurd H (by simp)
   ·rw [if_neg c3] at H
    have c3b0 : decide (x5_1 < (x0_1.length : Int)) = false := decide_eq_false c3
    clear c3
    simp only [Option.some.injEq, Prod.mk.injEq] at H
    obtain ⟨rfl, rfl⟩ := H
    obtain ⟨Ao9, co9, eo9⟩ := Kd.R_slice HO_0.out
    subst eo9
    go_wp2
    go_ret
    exact ⟨by first | rfl | (simp [errW_none, errW_some] <;> rfl) | (simp [*, errW_none, errW_some] <;> rfl), by (with_reducible repeat (first | apply Kd.R_alloc | apply Kd.R_drewN | apply Kd.R_drew)); exact HO_0.out, by repeat (first | (with_reducible first | exact HB.out | apply below_alloc | apply pw_below_drewN | apply below_drew1) | exact HB.out), by repeat (first | (with_reducible first | exact HK.out | apply Kept.alloc | apply Kept.drewN | apply Kept.drew) | exact HK.out)⟩
/-! ### laws_markHex: function 14 -/
def laws_markHex.f (k : Nat) (a0_0 : Int) (l0_1 : List Int) (a1 : Int) : Option (Int × List Int) := (laws_markInt64S.f k l0_1 a1).bind fun bt323 => (some (bt323.1, bt323.2))
set_option maxHeartbeats 8000000 in
set_option maxRecDepth 100000 in
theorem laws_markHex.calls (k : Nat) (a0_0 : Int) (P0_1_ : Nat → Prop) (u9000_ : Value) (l0_1 : List Int) (a1 : Int) (r1 : Int) (r2 : List Int) (w0 w : World) (hB : Below w0.heap.size w0 w) (ho0_1 : Kd.R (Kd.int .i64) 2 w w0.heap.size P0_1_ u9000_ l0_1) (h : laws_markHex.f k a0_0 l0_1 a1 = some (r1, r2)) :
  Calls Tryd.prog 14 #[.agg #[.int .i64 a0_0, u9000_], .int .i64 a1] w fun e w' => e = .returned (.int .i64 r1) ∧ Kd.R (Kd.int .i64) 2 w' w0.heap.size (fun k_ => (P0_1_ k_ ∨ w.heap.size ≤ k_)) u9000_ r2 ∧ Below w0.heap.size w0 w' ∧ Kept w w' (fun k_ => P0_1_ k_) := by
 have hu28 := Tryd.underlying28
 have HO0_1 := Aside0.mk (show Kd.R (Kd.int .i64) 2 w w0.heap.size (fun k_ => (P0_1_ k_ ∨ w.heap.size ≤ k_)) u9000_ l0_1 from Kd.R_mono ho0_1 (fun k_ hk => (.inl hk)))
 have HK := Aside0.mk (Kept.refl w (fun k_ => P0_1_ k_))
 have HW0 := Aside0.mk hB.size
 have HB := Aside0.mk hB
 clear hB
 have H : ((laws_markInt64S.f k l0_1 a1).bind fun bt323 => (some (bt323.1, bt323.2))) = some (r1, r2) := h
 clear h
 replace H := Option.bind_eq_some_iff.mp H
 obtain ⟨⟨t323, t324⟩, A30, H⟩ := H
 replace H : (some (t323, t324)) = some (r1, r2) := H
 have A3 := Aside0.mk A30
 clear A30
 simp only [Option.some.injEq, Prod.mk.injEq] at H
 obtain ⟨rfl, rfl⟩ := H
 obtain ⟨Ao4, co4, eo4⟩ := Kd.R_slice HO0_1.out
 subst eo4
 go_enter Tryd.func14, Tryd.ntmps14
 go_wp2_with (first | ((with_reducible refine gate_dst (N := 2) rfl ?_); refine box_event ?hg (N := 2) ?hd (cs := #[.int .i64 a0_0, .slice Ao4 l0_1.length co4]) (t := 28) ?hr ?_; (case hd => rfl); (case hg => rfl); (case hr => first | (go_simp; done) | (go_simp; rfl)); intro gb322 hg w5 hbox hb; have n0_ := Aside0.mk (Kd.R_below (by (with_reducible repeat (first | apply Kd.R_alloc | apply Kd.R_drewN | apply Kd.R_drew)); exact HO0_1.out) hb); have n1_ := Aside0.mk (Kept.below (S := (fun k_ => P0_1_ k_)) (by repeat (first | (with_reducible first | exact HK.out | apply Kept.alloc | apply Kept.drewN | apply Kept.drew) | exact HK.out)) hb); have n2_ := Aside0.mk (below_step hb_ hb); have n3_ := Aside0.mk (hbox); have n4_ := Aside0.mk ((by rw [hg]; exact (by first | exact HK.out.1 | exact (show Kept w _ (fun k_ => P0_1_ k_) from by repeat (first | (with_reducible first | exact HK.out | apply Kept.alloc | apply Kept.drewN | apply Kept.drew) | exact HK.out)).1) : w.heap.size ≤ gb322)); have n5_ := Aside0.mk ((by rw [hg]; exact (below_size hb_) : w0.heap.size ≤ gb322)); clear HO0_1; clear HK; clear HB; have HO0_1 := n0_; have HK := n1_; have HB := n2_; have BK322 := n3_; have GW322 := n4_; have GE322 := n5_; clear n0_ n1_ n2_ n3_ n4_ n5_; clear hb hbox hg; have hcz6_0 : w5.cell? ⟨gb322, 0, none⟩ = some (.int .i64 a0_0) := (blk_cell BK322.out 0).trans rfl; have hcz6_1 : w5.cell? ⟨gb322, 1, none⟩ = some (.slice Ao4 l0_1.length co4) := (blk_cell BK322.out 1).trans rfl; have hfz6_0 := blk_frozen BK322.out 0; have hfz6_1 := blk_frozen BK322.out 1) | ((with_reducible refine gate_callee (f := 15) rfl ?_); refine goesA_ (some 8) rfl rfl Tryd.func15 (by kernel_rfl) rfl #[.slice Ao4 l0_1.length co4, .int .i64 a1] rfl ?_; (with_reducible refine (laws_markInt64S.calls k (fun k_ => some k_ = (.slice Ao4 l0_1.length co4 : Value).ownBlock) (.slice Ao4 l0_1.length co4) l0_1 a1 t323 t324 w0 _ ?side1 ?side2 A3.out).mono ?_); (case side1 => repeat (first | (with_reducible first | exact HB.out | apply below_alloc | apply pw_below_drewN | apply below_drew1 | refine below_set ?_ GE322.out) | exact HB.out)); (case side2 => exact Kd.R_tight rfl HO0_1.out); rintro e w7 ⟨rfl, hy0, hb, hkp⟩; refine ⟨_, rfl, ?_⟩; have n0_ := Aside0.mk (Kd.R_reok rfl hy0 (fun k_ e_ => HO0_1.out.1 k_ e_)); have n1_ := Aside0.mk (blk_kept (by (with_reducible repeat (first | refine blk_drewN ?_ _ | refine blk_drew ?_ | refine blk_alloc ?_ _)); exact BK322.out) hkp (fun hs_ => (fun e_ => (Kd.R_ne HO0_1.out BK322.out (by decide)) e_) hs_)); have n2_ := Aside0.mk (Kept.then_ (S := (fun k_ => P0_1_ k_)) (by repeat (first | (with_reducible first | exact HK.out | apply Kept.alloc | apply Kept.drewN | apply Kept.drew | refine Kept.setCell ?_ (.inr GW322.out) _) | exact HK.out)) hkp (fun k_ hs_ => (fun e_ => (HO0_1.out.1 k_ e_.symm)) hs_)); have n3_ := Aside0.mk (hb); clear HO0_1; clear BK322; clear HK; clear HB; have HO0_1 := n0_; have BK322 := n1_; have HK := n2_; have HB := n3_; clear n0_ n1_ n2_ n3_; (try clear hb); (try clear hkp); (try clear hy0)))
 go_ret
 exact ⟨by first | rfl | (simp [errW_none, errW_some] <;> rfl) | (simp [*, errW_none, errW_some] <;> rfl), by (with_reducible repeat (first | apply Kd.R_alloc | apply Kd.R_drewN | apply Kd.R_drew)); exact HO0_1.out, by repeat (first | (with_reducible first | exact HB.out | apply below_alloc | apply pw_below_drewN | apply below_drew1 | refine below_set ?_ GE322.out) | exact HB.out), by repeat (first | (with_reducible first | exact HK.out | apply Kept.alloc | apply Kept.drewN | apply Kept.drew | refine Kept.setCell ?_ (.inr GW322.out) _) | exact HK.out)⟩
/-! ### laws_heldInt64S: function 16 -/
def laws_heldInt64S.l0 : Nat → List Int → Int → Int → Option (Int)
 | 0, _, _, _ => none
 | k + 1, x0, x1, x5 => if x5 < (x0.length : Int) then (if 0 ≤ x5 then (if (rd x0 x5) = x1 then (laws_heldInt64S.l0 k x0 (wrap64 (x1 + 1)) (wrap64 (x5 + 1))) else (some (-1))) else (none)) else (some x1)
def laws_heldInt64S.f (k : Nat) (l0 : List Int) (a1 : Int) : Option (Int) := laws_heldInt64S.l0 k l0 a1 0
set_option maxHeartbeats 8000000 in
set_option maxRecDepth 100000 in
theorem laws_heldInt64S.calls (k : Nat) (A0 : Option Addr) (c0 : Nat) (l0 : List Int) (a1 : Int) (r : Int) (w : World) (hr0 : Kd.C (Kd.int .i64) w A0 l0.length l0) (hc0 : l0.length ≤ c0) (h : laws_heldInt64S.f k l0 a1 = some r) :
  Calls Tryd.prog 16 #[.slice A0 l0.length c0, .int .i64 a1] w fun e w' => e = .returned (.int .i64 r) ∧ Drawn0 w w' := by
 have HR0 := Aside0.mk hr0
 have HC0 := Aside0.mk hc0
 clear hr0 hc0
 have H : (laws_heldInt64S.l0 k l0 a1 0) = some r := h
 clear h
 have H' := Aside0.mk H
 clear H
 go_enter Tryd.func16, Tryd.ntmps16
 go_wp2
 go_loopg [1, 5] k (fun kq v1 v5 w' => ∃ (x1_1 : Int) (x5_1 : Int), v1 = .int .i64 x1_1 ∧ v5 = .int .i64 x5_1 ∧ Aside0 (laws_heldInt64S.l0 kq l0 x1_1 x5_1 = some r) ∧ Aside0 (kq ≤ k) ∧ Drawn0 w w')
 case atStart => exact ⟨(a1), (0), (by first | rfl | (simp; done) | (simp [*]; done)), (by first | rfl | (simp; done) | (simp [*]; done)), H', ⟨Nat.le_refl _⟩, by repeat (first | exact Drawn0.refl _ | apply Drawn0.step)⟩
 case round =>
  clear H'
  (try clear c1); (try clear p2)
  obtain ⟨x1_1, x5_1, rfl, rfl, HA, HK1, ⟨m1, rfl⟩⟩ := hrel
  cases gk with
  | zero => exact absurd HA.out (by simp [laws_heldInt64S.l0])
  | succ k1 =>
   have H := HA.out
   clear HA
   simp only [laws_heldInt64S.l0] at H
   by_cases c3 : x5_1 < (l0.length : Int)
   ·rw [if_pos c3] at H
    have c3b0 : decide (x5_1 < (l0.length : Int)) = true := decide_eq_true c3
    clear c3
    by_cases c4 : 0 ≤ x5_1
    ·rw [if_pos c4] at H
     have c4b0 : decide (0 ≤ x5_1) = true := decide_eq_true c4
     clear c4
     by_cases c5 : (rd l0 x5_1) = x1_1
     ·rw [if_pos c5] at H
      have c5b0 : ((rd l0 x5_1) == x1_1) = true := beq_iff_eq.mpr c5
      have c5b1 : ((rd l0 x5_1) != x1_1) = false := bne_eq_false_iff_eq.mpr c5
      clear c5
      have H' := Aside0.mk H
      clear H
      have p325 : 0 ≤ (x5_1 : Int) := oda
      have q325 : x5_1 < (l0.length : Int) := oda
      obtain ⟨ad325, e325, hx325_0⟩ := Kd.at_int HR0.out x5_1 p325 q325
      cases e325
      replace p325 := eq_true p325
      replace q325 := eq_true q325
      go_wp2
      go_roundg k1
      case measure => have := HK1.out; omega
      case rel => exact ⟨(wrap64 (x1_1 + 1)), (wrap64 (x5_1 + 1)), (by first | rfl | (simp; done) | (simp [*]; done)), (by first | rfl | (simp; done) | (simp [*]; done)), H', ⟨by have := HK1.out; omega⟩, by repeat (first | exact Drawn0.refl _ | apply Drawn0.step)⟩
     ·rw [if_neg c5] at H
      have c5b0 : ((rd l0 x5_1) == x1_1) = false := beq_eq_false_iff_ne.mpr c5
      have c5b1 : ((rd l0 x5_1) != x1_1) = true := bne_iff_ne.mpr c5
      obtain rfl := Option.some.inj H
      have p325 : 0 ≤ (x5_1 : Int) := oda
      have q325 : x5_1 < (l0.length : Int) := oda
      obtain ⟨ad325, e325, hx325_0⟩ := Kd.at_int HR0.out x5_1 p325 q325
      cases e325
      replace p325 := eq_true p325
      replace q325 := eq_true q325
      go_wp2
      go_ret
      exact ⟨by first | rfl | (simp; done) | (simp [*]; done), by repeat (first | exact Drawn0.refl _ | apply Drawn0.step)⟩
    ·rw [if_neg c4] at H
     exact absurd H (by simp)
   ·rw [if_neg c3] at H
    have c3b0 : decide (x5_1 < (l0.length : Int)) = false := decide_eq_false c3
    clear c3
    obtain rfl := Option.some.inj H
    go_wp2
    go_ret
    exact ⟨by first | rfl | (simp; done) | (simp [*]; done), by repeat (first | exact Drawn0.refl _ | apply Drawn0.step)⟩
/-! ### laws_FnExactHexMoves: function 4 -/
mutual
def laws_FnExactHexMoves.j0 : Nat → List Int → Int → List Int → Int → Bool → Int → List Int → Int → List Int → Option (Bool)
 | 0, _, _, _, _, _, _, _, _, _ => none
 | k + 1, x4, x5, x7, x8, x40, x327000, x327001, x341000, x341001 => if x40 = true then (some false) else ((laws_toHex.f k x327000 x327001).bind fun bt346 => ((laws_eqHex.f k x341000 x341001 bt346.1 bt346.2).bind fun t350 => (if t350 = true then ((laws_markHex.f k x341000 x341001 1).bind fun bt351 => (if bt351.1 < 0 then (laws_FnExactHexMoves.j1 k x4 x5 x7 true x327000 x327001) else ((laws_eqInt64S.f k x7 x4).bind fun t353 => (if t353 = true then (laws_FnExactHexMoves.j1 k x4 x5 x7 (x8 != x5) x327000 x327001) else (laws_FnExactHexMoves.j1 k x4 x5 x7 true x327000 x327001))))) else (some false))))
def laws_FnExactHexMoves.j1 : Nat → List Int → Int → List Int → Bool → Int → List Int → Option (Bool)
 | 0, _, _, _, _, _, _ => none
 | k + 1, x4, x5, x7, x61, x327000, x327001 => if x61 = true then (some false) else ((laws_markInt64S.f k x7 1).bind fun bt354 => ((laws_heldInt64S.f k bt354.2 1).bind fun t356 => (if t356 < 0 then (some false) else (if t356 = bt354.1 then ((laws_toHex.f k x327000 x327001).bind fun bt357 => ((impl_HexMoves.f k bt357.1 bt357.2).bind fun bt361 => ((laws_eqInt64S.f k bt361.1 x4).bind fun t365 => (if t365 = true then (laws_FnExactHexMoves.j2 k bt354.2 bt354.1 (bt361.2 != x5)) else (laws_FnExactHexMoves.j2 k bt354.2 bt354.1 true))))) else (some false)))))
def laws_FnExactHexMoves.j2 : Nat → List Int → Int → Bool → Option (Bool)
 | 0, _, _, _ => none
 | k + 1, x7, x10, x87 => if x87 = true then (some false) else ((laws_heldInt64S.f k x7 1).bind fun t366 => (if t366 < 0 then (some false) else (if t366 = x10 then (some true) else (some false))))
end
def laws_FnExactHexMoves.f (k : Nat) (a0_0 : Int) (l0_1 : List Int) : Option (Bool) := (laws_szHex.f a0_0 l0_1 1048576).bind fun t327 => (if t327 < 0 then (some true) else ((laws_toHex.f k a0_0 l0_1).bind fun bt328 => ((spec_HexMoves.f k bt328.1 bt328.2).bind fun bt332 => ((laws_toHex.f k a0_0 l0_1).bind fun bt336 => ((impl_HexMoves.f k bt336.1 bt336.2).bind fun bt341 => ((laws_eqInt64S.f k bt341.1 bt332.1).bind fun t345 => (if t345 = true then (laws_FnExactHexMoves.j0 k bt332.1 bt332.2 bt341.1 bt341.2 (bt341.2 != bt332.2) a0_0 l0_1 bt336.1 bt336.2) else (laws_FnExactHexMoves.j0 k bt332.1 bt332.2 bt341.1 bt341.2 true a0_0 l0_1 bt336.1 bt336.2))))))))
set_option maxHeartbeats 8000000 in
set_option maxRecDepth 100000 in
theorem laws_FnExactHexMoves.calls (k : Nat) (a0_0 : Int) (A0_1 : Option Addr) (c0_1 : Nat) (l0_1 : List Int) (r : Bool) (w : World) (hr0_1 : Kd.C (Kd.int .i64) w A0_1 l0_1.length l0_1) (hc0_1 : l0_1.length ≤ c0_1) (h : laws_FnExactHexMoves.f k a0_0 l0_1 = some true) :
  Calls Tryd.prog 4 #[.agg #[.int .i64 a0_0, .slice A0_1 l0_1.length c0_1]] w fun e w' => e = .returned (.bool true) ∧ Below w.heap.size w w' := by
 have hu24 := Tryd.underlying24
 have hu28 := Tryd.underlying28
 have HR0_1 := Aside0.mk hr0_1
 have HC0_1 := Aside0.mk hc0_1
 clear hr0_1 hc0_1
 have HB := Aside0.mk (Below.refl w.heap.size w)
 have H : ((laws_szHex.f a0_0 l0_1 1048576).bind fun t327 => (if t327 < 0 then (some true) else ((laws_toHex.f k a0_0 l0_1).bind fun bt328 => ((spec_HexMoves.f k bt328.1 bt328.2).bind fun bt332 => ((laws_toHex.f k a0_0 l0_1).bind fun bt336 => ((impl_HexMoves.f k bt336.1 bt336.2).bind fun bt341 => ((laws_eqInt64S.f k bt341.1 bt332.1).bind fun t345 => (if t345 = true then (laws_FnExactHexMoves.j0 k bt332.1 bt332.2 bt341.1 bt341.2 (bt341.2 != bt332.2) a0_0 l0_1 bt336.1 bt336.2) else (laws_FnExactHexMoves.j0 k bt332.1 bt332.2 bt341.1 bt341.2 true a0_0 l0_1 bt336.1 bt336.2))))))))) = some true := h
 clear h
 replace H := Option.bind_eq_some_iff.mp H
 obtain ⟨t327, A20, H⟩ := H
 replace H : (if t327 < 0 then (some true) else ((laws_toHex.f k a0_0 l0_1).bind fun bt328 => ((spec_HexMoves.f k bt328.1 bt328.2).bind fun bt332 => ((laws_toHex.f k a0_0 l0_1).bind fun bt336 => ((impl_HexMoves.f k bt336.1 bt336.2).bind fun bt341 => ((laws_eqInt64S.f k bt341.1 bt332.1).bind fun t345 => (if t345 = true then (laws_FnExactHexMoves.j0 k bt332.1 bt332.2 bt341.1 bt341.2 (bt341.2 != bt332.2) a0_0 l0_1 bt336.1 bt336.2) else (laws_FnExactHexMoves.j0 k bt332.1 bt332.2 bt341.1 bt341.2 true a0_0 l0_1 bt336.1 bt336.2)))))))) = some true := H
 have A2 := Aside0.mk A20
 clear A20
 by_cases c3 : t327 < 0
 ·rw [if_pos c3] at H
  have c3b0 : decide (t327 < 0) = true := decide_eq_true c3
  clear c3
  clear H
  go_enter Tryd.func4, Tryd.ntmps4
  go_wp2_with (first | ((with_reducible refine gate_dst (N := 1) rfl ?_); refine box_event ?hg (N := 1) ?hd (cs := #[.int .i64 a0_0, .slice A0_1 l0_1.length c0_1]) (t := 24) ?hr ?_; (case hd => rfl); (case hg => rfl); (case hr => first | (go_simp; done) | (go_simp; rfl)); intro gb326 hg w4 hbox hb; have n0_ := Aside0.mk (below_step hb_ hb); have n1_ := Aside0.mk (hbox); have n2_ := Aside0.mk ((by rw [hg]; exact (below_size hb_) : w.heap.size ≤ gb326)); have n3_ := Aside0.mk ((by rw [hg]; exact (below_size hb_) : w.heap.size ≤ gb326)); clear HB; have HB := n0_; have BK326 := n1_; have GW326 := n2_; have GE326 := n3_; clear n0_ n1_ n2_ n3_; clear hb hbox hg; have hcz5_0 : w4.cell? ⟨gb326, 0, none⟩ = some (.int .i64 a0_0) := (blk_cell BK326.out 0).trans rfl; have hcz5_1 : w4.cell? ⟨gb326, 1, none⟩ = some (.slice A0_1 l0_1.length c0_1) := (blk_cell BK326.out 1).trans rfl; have hfz5_0 := blk_frozen BK326.out 0; have hfz5_1 := blk_frozen BK326.out 1) | ((with_reducible refine gate_callee (f := 6) rfl ?_); refine goesA_ (some 16) rfl rfl Tryd.func6 (by kernel_rfl) rfl #[.agg #[.int .i64 a0_0, .slice A0_1 l0_1.length c0_1], .int .i64 1048576] rfl ?_; (with_reducible refine (laws_szHex.calls a0_0 _ _ l0_1 1048576 t327 _ ?side1 ?side2 A2.out).mono ?_); (case side1 => repeat (first | exact (Kd.C_below HR0_1.out HB.out) | (with_reducible refine Kd.C_alloc ?_ _) | (with_reducible refine Kd.C_drewN ?_ _) | (with_reducible refine Kd.C_drew ?_))); (case side2 => exact HC0_1.out); rintro e w6 ⟨rfl, hb⟩; refine ⟨_, rfl, ?_⟩; have n0_ := Aside0.mk (blk_below (g := gb326) (o := .cells #[.int .i64 a0_0, .slice A0_1 l0_1.length c0_1] 24 (0, 0)) (by (with_reducible repeat (first | refine blk_drewN ?_ _ | refine blk_drew ?_ | refine blk_alloc ?_ _)); exact BK326.out) hb); have n1_ := Aside0.mk (below_step (by repeat (first | (with_reducible first | exact HB.out | apply below_alloc | apply pw_below_drewN | apply below_drew1 | refine below_set ?_ GE326.out) | exact HB.out)) hb); clear BK326; clear HB; have BK326 := n0_; have HB := n1_; clear n0_ n1_; (try clear hb); (try clear hb2); (try clear hk); (try clear hi)))
  go_ret
  exact ⟨by first | rfl | (simp [errW_none, errW_some] <;> rfl) | (simp [*, errW_none, errW_some] <;> rfl), by repeat (first | (with_reducible first | exact HB.out | apply below_alloc | apply pw_below_drewN | apply below_drew1 | refine below_set ?_ GE326.out) | exact HB.out)⟩
 ·rw [if_neg c3] at H
  have c3b0 : decide (t327 < 0) = false := decide_eq_false c3
  clear c3
  replace H := Option.bind_eq_some_iff.mp H
  obtain ⟨⟨t328, t329⟩, A70, H⟩ := H
  replace H : ((spec_HexMoves.f k t328 t329).bind fun bt332 => ((laws_toHex.f k a0_0 l0_1).bind fun bt336 => ((impl_HexMoves.f k bt336.1 bt336.2).bind fun bt341 => ((laws_eqInt64S.f k bt341.1 bt332.1).bind fun t345 => (if t345 = true then (laws_FnExactHexMoves.j0 k bt332.1 bt332.2 bt341.1 bt341.2 (bt341.2 != bt332.2) a0_0 l0_1 bt336.1 bt336.2) else (laws_FnExactHexMoves.j0 k bt332.1 bt332.2 bt341.1 bt341.2 true a0_0 l0_1 bt336.1 bt336.2)))))) = some true := H
  have A7 := Aside0.mk A70
  clear A70
  replace H := Option.bind_eq_some_iff.mp H
  obtain ⟨⟨t332, t335⟩, A80, H⟩ := H
  replace H : ((laws_toHex.f k a0_0 l0_1).bind fun bt336 => ((impl_HexMoves.f k bt336.1 bt336.2).bind fun bt341 => ((laws_eqInt64S.f k bt341.1 t332).bind fun t345 => (if t345 = true then (laws_FnExactHexMoves.j0 k t332 t335 bt341.1 bt341.2 (bt341.2 != t335) a0_0 l0_1 bt336.1 bt336.2) else (laws_FnExactHexMoves.j0 k t332 t335 bt341.1 bt341.2 true a0_0 l0_1 bt336.1 bt336.2))))) = some true := H
  have A8 := Aside0.mk A80
  clear A80
  replace H := Option.bind_eq_some_iff.mp H
  obtain ⟨⟨t336, t337⟩, A90, H⟩ := H
  replace H : ((impl_HexMoves.f k t336 t337).bind fun bt341 => ((laws_eqInt64S.f k bt341.1 t332).bind fun t345 => (if t345 = true then (laws_FnExactHexMoves.j0 k t332 t335 bt341.1 bt341.2 (bt341.2 != t335) a0_0 l0_1 t336 t337) else (laws_FnExactHexMoves.j0 k t332 t335 bt341.1 bt341.2 true a0_0 l0_1 t336 t337)))) = some true := H
  have A9 := Aside0.mk A90
  clear A90
  replace H := Option.bind_eq_some_iff.mp H
  obtain ⟨⟨t341, t344⟩, A100, H⟩ := H
  replace H : ((laws_eqInt64S.f k t341 t332).bind fun t345 => (if t345 = true then (laws_FnExactHexMoves.j0 k t332 t335 t341 t344 (t344 != t335) a0_0 l0_1 t336 t337) else (laws_FnExactHexMoves.j0 k t332 t335 t341 t344 true a0_0 l0_1 t336 t337))) = some true := H
  have A10 := Aside0.mk A100
  clear A100
  have HC11 := Aside0.mk H
  clear H
  go_enter Tryd.func4, Tryd.ntmps4
  go_upto_region 8 with (first | ((with_reducible refine gate_dst (N := 1) rfl ?_); refine box_event ?hg (N := 1) ?hd (cs := #[.int .i64 a0_0, .slice A0_1 l0_1.length c0_1]) (t := 24) ?hr ?_; (case hd => rfl); (case hg => rfl); (case hr => first | (go_simp; done) | (go_simp; rfl)); intro gb326 hg w12 hbox hb; have n0_ := Aside0.mk (below_step hb_ hb); have n1_ := Aside0.mk (hbox); have n2_ := Aside0.mk ((by rw [hg]; exact (below_size hb_) : w.heap.size ≤ gb326)); have n3_ := Aside0.mk ((by rw [hg]; exact (below_size hb_) : w.heap.size ≤ gb326)); clear HB; have HB := n0_; have BK326 := n1_; have GW326 := n2_; have GE326 := n3_; clear n0_ n1_ n2_ n3_; clear hb hbox hg; have hcz13_0 : w12.cell? ⟨gb326, 0, none⟩ = some (.int .i64 a0_0) := (blk_cell BK326.out 0).trans rfl; have hcz13_1 : w12.cell? ⟨gb326, 1, none⟩ = some (.slice A0_1 l0_1.length c0_1) := (blk_cell BK326.out 1).trans rfl; have hfz13_0 := blk_frozen BK326.out 0; have hfz13_1 := blk_frozen BK326.out 1) | ((with_reducible refine gate_callee (f := 6) rfl ?_); refine goesA_ (some 16) rfl rfl Tryd.func6 (by kernel_rfl) rfl #[.agg #[.int .i64 a0_0, .slice A0_1 l0_1.length c0_1], .int .i64 1048576] rfl ?_; (with_reducible refine (laws_szHex.calls a0_0 _ _ l0_1 1048576 t327 _ ?side1 ?side2 A2.out).mono ?_); (case side1 => repeat (first | exact (Kd.C_below HR0_1.out HB.out) | (with_reducible refine Kd.C_alloc ?_ _) | (with_reducible refine Kd.C_drewN ?_ _) | (with_reducible refine Kd.C_drew ?_))); (case side2 => exact HC0_1.out); rintro e w14 ⟨rfl, hb⟩; refine ⟨_, rfl, ?_⟩; have n0_ := Aside0.mk (blk_below (g := gb326) (o := .cells #[.int .i64 a0_0, .slice A0_1 l0_1.length c0_1] 24 (0, 0)) (by (with_reducible repeat (first | refine blk_drewN ?_ _ | refine blk_drew ?_ | refine blk_alloc ?_ _)); exact BK326.out) hb); have n1_ := Aside0.mk (below_step (by repeat (first | (with_reducible first | exact HB.out | apply below_alloc | apply pw_below_drewN | apply below_drew1 | refine below_set ?_ GE326.out) | exact HB.out)) hb); clear BK326; clear HB; have BK326 := n0_; have HB := n1_; clear n0_ n1_; (try clear hb); (try clear hb2); (try clear hk); (try clear hi); have hcz15_0 : w14.cell? ⟨gb326, 0, none⟩ = some (.int .i64 a0_0) := (blk_cell BK326.out 0).trans rfl; have hcz15_1 : w14.cell? ⟨gb326, 1, none⟩ = some (.slice A0_1 l0_1.length c0_1) := (blk_cell BK326.out 1).trans rfl; have hfz15_0 := blk_frozen BK326.out 0; have hfz15_1 := blk_frozen BK326.out 1) | ((with_reducible refine gate_callee (f := 8) rfl ?_); refine goesA_ (some 21) rfl rfl Tryd.func8 (by kernel_rfl) rfl #[.agg #[.int .i64 a0_0, .slice A0_1 l0_1.length c0_1]] rfl ?_; (with_reducible refine (laws_toHex.calls k a0_0 _ _ l0_1 t328 t329 _ ?side1 ?side2 A7.out).mono ?_); (case side1 => repeat (first | exact (Kd.C_below HR0_1.out HB.out) | (with_reducible refine Kd.C_alloc ?_ _) | (with_reducible refine Kd.C_drewN ?_ _) | (with_reducible refine Kd.C_drew ?_))); (case side2 => exact HC0_1.out); rintro e w16 ⟨v330, rfl, ho0, hb⟩; refine ⟨_, rfl, ?_⟩; have n0_ := Aside0.mk (Kd.R_lower ho0 (below_size (by repeat (first | (with_reducible first | exact HB.out | apply below_alloc | apply pw_below_drewN | apply below_drew1 | refine below_set ?_ GE326.out) | exact HB.out)))); have n1_ := Aside0.mk (blk_below (g := gb326) (o := .cells #[.int .i64 a0_0, .slice A0_1 l0_1.length c0_1] 24 (0, 0)) (by (with_reducible repeat (first | refine blk_drewN ?_ _ | refine blk_drew ?_ | refine blk_alloc ?_ _)); exact BK326.out) hb); have n2_ := Aside0.mk (below_step (by repeat (first | (with_reducible first | exact HB.out | apply below_alloc | apply pw_below_drewN | apply below_drew1 | refine below_set ?_ GE326.out) | exact HB.out)) hb); clear BK326; clear HB; have HO331 := n0_; have BK326 := n1_; have HB := n2_; clear n0_ n1_ n2_; (try clear hb); (try clear hb2); (try clear hk); (try clear hi); (try clear ho0); obtain ⟨Ao17, co17, eo17⟩ := Kd.R_slice HO331.out; subst eo17) | ((with_reducible refine gate_callee (f := 11) rfl ?_); refine goesA_ (some 22) rfl rfl Tryd.func11 (by kernel_rfl) rfl #[.agg #[.int .i64 t328, .slice Ao17 t329.length co17]] rfl ?_; (with_reducible refine (spec_HexMoves.calls k t328 _ _ t329 t332 t335 _ ?side1 ?side2 A8.out).mono ?_); (case side1 => repeat (first | exact (Kd.R_reads' HO331.out).2.2 | (with_reducible refine Kd.C_alloc ?_ _) | (with_reducible refine Kd.C_drewN ?_ _) | (with_reducible refine Kd.C_drew ?_))); (case side2 => exact (Kd.R_reads' HO331.out).2.1); rintro e w18 ⟨v333, rfl, ho0, hb⟩; refine ⟨_, rfl, ?_⟩; have n0_ := Aside0.mk (Kd.R_elder' (by (with_reducible repeat (first | apply Kd.R_alloc | apply Kd.R_drewN | apply Kd.R_drew)); exact HO331.out) (Kd.R_base ho0) hb); have n1_ := Aside0.mk (Kd.R_lower (Kd.R_new' ho0 (Kd.R_lt (by (with_reducible repeat (first | apply Kd.R_alloc | apply Kd.R_drewN | apply Kd.R_drew)); exact HO331.out))) (below_size (by repeat (first | (with_reducible first | exact HB.out | apply below_alloc | apply pw_below_drewN | apply below_drew1 | refine below_set ?_ GE326.out) | exact HB.out)))); have n2_ := Aside0.mk (blk_below (g := gb326) (o := .cells #[.int .i64 a0_0, .slice A0_1 l0_1.length c0_1] 24 (0, 0)) (by (with_reducible repeat (first | refine blk_drewN ?_ _ | refine blk_drew ?_ | refine blk_alloc ?_ _)); exact BK326.out) hb); have n3_ := Aside0.mk (below_step (by repeat (first | (with_reducible first | exact HB.out | apply below_alloc | apply pw_below_drewN | apply below_drew1 | refine below_set ?_ GE326.out) | exact HB.out)) hb); clear HO331; clear BK326; clear HB; have HO331 := n0_; have HO334 := n1_; have BK326 := n2_; have HB := n3_; clear n0_ n1_ n2_ n3_; (try clear hb); (try clear hb2); (try clear hk); (try clear hi); (try clear ho0); have hcz19_0 : w18.cell? ⟨gb326, 0, none⟩ = some (.int .i64 a0_0) := (blk_cell BK326.out 0).trans rfl; have hcz19_1 : w18.cell? ⟨gb326, 1, none⟩ = some (.slice A0_1 l0_1.length c0_1) := (blk_cell BK326.out 1).trans rfl; have hfz19_0 := blk_frozen BK326.out 0; have hfz19_1 := blk_frozen BK326.out 1) | ((with_reducible refine gate_callee (f := 8) rfl ?_); refine goesA_ (some 26) rfl rfl Tryd.func8 (by kernel_rfl) rfl #[.agg #[.int .i64 a0_0, .slice A0_1 l0_1.length c0_1]] rfl ?_; (with_reducible refine (laws_toHex.calls k a0_0 _ _ l0_1 t336 t337 _ ?side1 ?side2 A9.out).mono ?_); (case side1 => repeat (first | exact (Kd.C_below HR0_1.out HB.out) | (with_reducible refine Kd.C_alloc ?_ _) | (with_reducible refine Kd.C_drewN ?_ _) | (with_reducible refine Kd.C_drew ?_))); (case side2 => exact HC0_1.out); rintro e w20 ⟨v338, rfl, ho0, hb⟩; refine ⟨_, rfl, ?_⟩; have n0_ := Aside0.mk (Kd.R_elder' (by (with_reducible repeat (first | apply Kd.R_alloc | apply Kd.R_drewN | apply Kd.R_drew)); exact HO331.out) (Kd.R_base ho0) hb); have n1_ := Aside0.mk (Kd.R_elder' (by (with_reducible repeat (first | apply Kd.R_alloc | apply Kd.R_drewN | apply Kd.R_drew)); exact HO334.out) (Kd.R_base ho0) hb); have n2_ := Aside0.mk (Kd.R_lower (Kd.R_new' (Kd.R_new' ho0 (Kd.R_lt (by (with_reducible repeat (first | apply Kd.R_alloc | apply Kd.R_drewN | apply Kd.R_drew)); exact HO331.out))) (Kd.R_lt (by (with_reducible repeat (first | apply Kd.R_alloc | apply Kd.R_drewN | apply Kd.R_drew)); exact HO334.out))) (below_size (by repeat (first | (with_reducible first | exact HB.out | apply below_alloc | apply pw_below_drewN | apply below_drew1 | refine below_set ?_ GE326.out) | exact HB.out)))); have n3_ := Aside0.mk (blk_below (g := gb326) (o := .cells #[.int .i64 a0_0, .slice A0_1 l0_1.length c0_1] 24 (0, 0)) (by (with_reducible repeat (first | refine blk_drewN ?_ _ | refine blk_drew ?_ | refine blk_alloc ?_ _)); exact BK326.out) hb); have n4_ := Aside0.mk (below_step (by repeat (first | (with_reducible first | exact HB.out | apply below_alloc | apply pw_below_drewN | apply below_drew1 | refine below_set ?_ GE326.out) | exact HB.out)) hb); clear HO331; clear HO334; clear BK326; clear HB; have HO331 := n0_; have HO334 := n1_; have HO339 := n2_; have BK326 := n3_; have HB := n4_; clear n0_ n1_ n2_ n3_ n4_; (try clear hb); (try clear hb2); (try clear hk); (try clear hi); (try clear ho0)) | ((with_reducible refine gate_dst (N := 6) rfl ?_); refine box_event ?hg (N := 6) ?hd (cs := #[.int .i64 0, .slice none 0 0]) (t := 28) ?hr ?_; (case hd => rfl); (case hg => rfl); (case hr => first | (go_simp; done) | (go_simp; rfl)); intro gb340 hg w21 hbox hb; have n0_ := Aside0.mk (Kd.R_below (by (with_reducible repeat (first | apply Kd.R_alloc | apply Kd.R_drewN | apply Kd.R_drew)); exact HO331.out) hb); have n1_ := Aside0.mk (Kd.R_below (by (with_reducible repeat (first | apply Kd.R_alloc | apply Kd.R_drewN | apply Kd.R_drew)); exact HO334.out) hb); have n2_ := Aside0.mk (Kd.R_below (by (with_reducible repeat (first | apply Kd.R_alloc | apply Kd.R_drewN | apply Kd.R_drew)); exact HO339.out) hb); have n3_ := Aside0.mk (blk_below (g := gb326) (o := .cells #[.int .i64 a0_0, .slice A0_1 l0_1.length c0_1] 24 (0, 0)) (by (with_reducible repeat (first | refine blk_drewN ?_ _ | refine blk_drew ?_ | refine blk_alloc ?_ _)); exact BK326.out) hb); have n4_ := Aside0.mk (below_step (by repeat (first | (with_reducible first | exact HB.out | apply below_alloc | apply pw_below_drewN | apply below_drew1 | refine below_set ?_ GE326.out) | exact HB.out)) hb); have n5_ := Aside0.mk (hbox); have n6_ := Aside0.mk ((by rw [hg]; exact (below_size (by repeat (first | (with_reducible first | exact HB.out | apply below_alloc | apply pw_below_drewN | apply below_drew1 | refine below_set ?_ GE326.out) | exact HB.out))) : w.heap.size ≤ gb340)); have n7_ := Aside0.mk ((by rw [hg]; exact (below_size (by repeat (first | (with_reducible first | exact HB.out | apply below_alloc | apply pw_below_drewN | apply below_drew1 | refine below_set ?_ GE326.out) | exact HB.out))) : w.heap.size ≤ gb340)); have n8_ := Aside0.mk ((by rw [hg]; exact Nat.ne_of_lt (blk_lt (g := gb326) (o := .cells #[.int .i64 a0_0, .slice A0_1 l0_1.length c0_1] 24 (0, 0)) (by (with_reducible repeat (first | refine blk_drewN ?_ _ | refine blk_drew ?_ | refine blk_alloc ?_ _)); exact BK326.out)) : gb326 ≠ gb340)); have n9_ := Aside0.mk ((by rw [hg]; exact Nat.ne_of_gt (blk_lt (g := gb326) (o := .cells #[.int .i64 a0_0, .slice A0_1 l0_1.length c0_1] 24 (0, 0)) (by (with_reducible repeat (first | refine blk_drewN ?_ _ | refine blk_drew ?_ | refine blk_alloc ?_ _)); exact BK326.out)) : gb340 ≠ gb326)); clear HO331; clear HO334; clear HO339; clear BK326; clear HB; have HO331 := n0_; have HO334 := n1_; have HO339 := n2_; have BK326 := n3_; have HB := n4_; have BK340 := n5_; have GW340 := n6_; have GE340 := n7_; have NB326_340 := n8_; have NB340_326 := n9_; clear n0_ n1_ n2_ n3_ n4_ n5_ n6_ n7_ n8_ n9_; clear hb hbox hg; have hnb22 := NB340_326.out; have hnc22 := NB326_340.out; have hcz23_0 : w21.cell? ⟨gb340, 0, none⟩ = some (.int .i64 0) := (blk_cell BK340.out 0).trans rfl; have hcz23_1 : w21.cell? ⟨gb340, 1, none⟩ = some (.slice none 0 0) := (blk_cell BK340.out 1).trans rfl; have hfz23_0 := blk_frozen BK340.out 0; have hfz23_1 := blk_frozen BK340.out 1; obtain ⟨Ao24, co24, eo24⟩ := Kd.R_slice HO339.out; subst eo24) | ((with_reducible refine gate_callee (f := 12) rfl ?_); refine goesA_ (some 29) rfl rfl Tryd.func12 (by kernel_rfl) rfl #[.agg #[.int .i64 t336, .slice Ao24 t337.length co24]] rfl ?_; (with_reducible refine (impl_HexMoves.calls k t336 _ _ t337 t341 t344 _ ?side1 ?side2 A10.out).mono ?_); (case side1 => refine (Kd.R_reads' (e := 2) (base := w.heap.size) (ok := fun k_ => ((True ∧ some k_ ≠ (.slice Ao17 t329.length co17 : Value).ownBlock) ∧ some k_ ≠ (v333 : Value).ownBlock)) (n := t337.length) (c := co24) ?_).2.2; exact (by (with_reducible repeat (first | apply Kd.R_alloc | apply Kd.R_drewN | apply Kd.R_drew)); exact (Kd.R_mono (Kd.R_far (p := ⟨gb340, 1, none⟩) (Kd.R_far (p := ⟨gb340, 0, none⟩) (Kd.R_types HO339.out BK340.out (by decide)) (fun _ hk => hk.2) (.int .i64 t336)) (fun _ hk => hk.2) (.slice Ao24 t337.length co24)) (fun _ h_ => h_.1)))); (case side2 => exact (Kd.R_reads' HO339.out).2.1); rintro e w25 ⟨v342, rfl, ho0, hb⟩; refine ⟨_, rfl, ?_⟩; have n0_ := Aside0.mk (Kd.R_elder' (by (with_reducible repeat (first | apply Kd.R_alloc | apply Kd.R_drewN | apply Kd.R_drew)); exact (Kd.R_mono (Kd.R_far (p := ⟨gb340, 1, none⟩) (Kd.R_far (p := ⟨gb340, 0, none⟩) (Kd.R_types HO331.out BK340.out (by decide)) (fun _ hk => hk.2) (.int .i64 t336)) (fun _ hk => hk.2) (.slice Ao24 t337.length co24)) (fun _ h_ => h_.1))) (Kd.R_base ho0) hb); have n1_ := Aside0.mk (Kd.R_elder' (by (with_reducible repeat (first | apply Kd.R_alloc | apply Kd.R_drewN | apply Kd.R_drew)); exact (Kd.R_mono (Kd.R_far (p := ⟨gb340, 1, none⟩) (Kd.R_far (p := ⟨gb340, 0, none⟩) (Kd.R_types HO334.out BK340.out (by decide)) (fun _ hk => hk.2) (.int .i64 t336)) (fun _ hk => hk.2) (.slice Ao24 t337.length co24)) (fun _ h_ => h_.1))) (Kd.R_base ho0) hb); have n2_ := Aside0.mk (Kd.R_elder' (by (with_reducible repeat (first | apply Kd.R_alloc | apply Kd.R_drewN | apply Kd.R_drew)); exact (Kd.R_mono (Kd.R_far (p := ⟨gb340, 1, none⟩) (Kd.R_far (p := ⟨gb340, 0, none⟩) (Kd.R_types HO339.out BK340.out (by decide)) (fun _ hk => hk.2) (.int .i64 t336)) (fun _ hk => hk.2) (.slice Ao24 t337.length co24)) (fun _ h_ => h_.1))) (Kd.R_base ho0) hb); have n3_ := Aside0.mk (Kd.R_lower (Kd.R_new' (Kd.R_new' (Kd.R_new' ho0 (Kd.R_lt (by (with_reducible repeat (first | apply Kd.R_alloc | apply Kd.R_drewN | apply Kd.R_drew)); exact (Kd.R_mono (Kd.R_far (p := ⟨gb340, 1, none⟩) (Kd.R_far (p := ⟨gb340, 0, none⟩) (Kd.R_types HO331.out BK340.out (by decide)) (fun _ hk => hk.2) (.int .i64 t336)) (fun _ hk => hk.2) (.slice Ao24 t337.length co24)) (fun _ h_ => h_.1))))) (Kd.R_lt (by (with_reducible repeat (first | apply Kd.R_alloc | apply Kd.R_drewN | apply Kd.R_drew)); exact (Kd.R_mono (Kd.R_far (p := ⟨gb340, 1, none⟩) (Kd.R_far (p := ⟨gb340, 0, none⟩) (Kd.R_types HO334.out BK340.out (by decide)) (fun _ hk => hk.2) (.int .i64 t336)) (fun _ hk => hk.2) (.slice Ao24 t337.length co24)) (fun _ h_ => h_.1))))) (Kd.R_lt (by (with_reducible repeat (first | apply Kd.R_alloc | apply Kd.R_drewN | apply Kd.R_drew)); exact (Kd.R_mono (Kd.R_far (p := ⟨gb340, 1, none⟩) (Kd.R_far (p := ⟨gb340, 0, none⟩) (Kd.R_types HO339.out BK340.out (by decide)) (fun _ hk => hk.2) (.int .i64 t336)) (fun _ hk => hk.2) (.slice Ao24 t337.length co24)) (fun _ h_ => h_.1))))) (below_size (by repeat (first | (with_reducible first | exact HB.out | apply below_alloc | apply pw_below_drewN | apply below_drew1 | refine below_set ?_ GE326.out | refine below_set ?_ GE340.out) | exact HB.out)))); have n4_ := Aside0.mk (blk_below (g := gb326) (o := .cells #[.int .i64 a0_0, .slice A0_1 l0_1.length c0_1] 24 (0, 0)) (by (with_reducible repeat (first | refine blk_drewN ?_ _ | refine blk_drew ?_ | refine blk_alloc ?_ _)); refine blk_far ?_ NB326_340.out _; (with_reducible repeat (first | refine blk_drewN ?_ _ | refine blk_drew ?_ | refine blk_alloc ?_ _)); refine blk_far ?_ NB326_340.out _; (with_reducible repeat (first | refine blk_drewN ?_ _ | refine blk_drew ?_ | refine blk_alloc ?_ _)); exact BK326.out) hb); have n5_ := Aside0.mk (blk_below (g := gb340) (o := .cells #[.int .i64 t336, .slice Ao24 t337.length co24] 28 (0, 0)) (by (with_reducible repeat (first | refine blk_drewN ?_ _ | refine blk_drew ?_ | refine blk_alloc ?_ _)); refine blk_put (cs := #[.int .i64 t336, .slice none 0 0]) ?_ 1 _ rfl; (with_reducible repeat (first | refine blk_drewN ?_ _ | refine blk_drew ?_ | refine blk_alloc ?_ _)); refine blk_put (cs := #[.int .i64 0, .slice none 0 0]) ?_ 0 _ rfl; (with_reducible repeat (first | refine blk_drewN ?_ _ | refine blk_drew ?_ | refine blk_alloc ?_ _)); exact BK340.out) hb); have n6_ := Aside0.mk (below_step (by repeat (first | (with_reducible first | exact HB.out | apply below_alloc | apply pw_below_drewN | apply below_drew1 | refine below_set ?_ GE326.out | refine below_set ?_ GE340.out) | exact HB.out)) hb); clear HO331; clear HO334; clear HO339; clear BK326; clear BK340; clear HB; have HO331 := n0_; have HO334 := n1_; have HO339 := n2_; have HO343 := n3_; have BK326 := n4_; have BK340 := n5_; have HB := n6_; clear n0_ n1_ n2_ n3_ n4_ n5_ n6_; (try clear hb); (try clear hb2); (try clear hk); (try clear hi); (try clear ho0)))
  (try simp only [Act.put, List.setIfInBounds_toArray, List.set_cons_zero, List.set_cons_succ])
  go_cut [40] (fun v40 wc => ∃ (kq : Nat) (x40_10 : Bool), v40 = .bool x40_10 ∧ Aside0 (laws_FnExactHexMoves.j0 kq t332 t335 t341 t344 x40_10 a0_0 l0_1 t336 t337 = some true) ∧ Aside0 (kq ≤ k) ∧ Aside0 (Kd.R (Kd.int .i64) 2 wc w.heap.size (fun k_ => some k_ ≠ (v342 : Value).ownBlock ∧ some k_ ≠ ((.slice Ao24 t337.length co24) : Value).ownBlock) v333 t332) ∧ Aside0 (Kd.R (Kd.int .i64) 2 wc w.heap.size (fun k_ => some k_ ≠ (v333 : Value).ownBlock ∧ some k_ ≠ ((.slice Ao24 t337.length co24) : Value).ownBlock) v342 t341) ∧ Aside0 (Kd.R (Kd.int .i64) 2 wc w.heap.size (fun k_ => some k_ ≠ (v333 : Value).ownBlock ∧ some k_ ≠ (v342 : Value).ownBlock) (.slice Ao24 t337.length co24) t337) ∧ Aside0 (wc.heap[gb326]? = some (.cells #[.int .i64 a0_0, (.slice A0_1 l0_1.length c0_1)] 24 (0, 0))) ∧ Aside0 (wc.heap[gb340]? = some (.cells #[.int .i64 t336, (.slice Ao24 t337.length co24)] 28 (0, 0))) ∧ Aside0 (Below w.heap.size w wc))
  case first =>
   have H := HC11.out
   clear HC11
   replace H := Option.bind_eq_some_iff.mp H
   obtain ⟨t345, A260, H⟩ := H
   replace H : (if t345 = true then (laws_FnExactHexMoves.j0 k t332 t335 t341 t344 (t344 != t335) a0_0 l0_1 t336 t337) else (laws_FnExactHexMoves.j0 k t332 t335 t341 t344 true a0_0 l0_1 t336 t337)) = some true := H
   have A26 := Aside0.mk A260
   clear A260
   by_cases c27 : t345 = true
   ·subst c27
    have H1 : (laws_FnExactHexMoves.j0 k t332 t335 t341 t344 (t344 != t335) a0_0 l0_1 t336 t337) = some true := by rw [if_pos rfl] at H; exact H
    clear H
    have H := H1
    clear H1
    have H' := Aside0.mk H
    clear H
    obtain ⟨Ao28, co28, eo28⟩ := Kd.R_slice HO343.out
    subst eo28
    obtain ⟨Ao29, co29, eo29⟩ := Kd.R_slice HO334.out
    subst eo29
    go_wp2_with (first | ((with_reducible refine gate_callee (f := 13) rfl ?_); refine goesA_ (some 34) rfl rfl Tryd.func13 (by kernel_rfl) rfl #[.slice Ao28 t341.length co28, .slice Ao29 t332.length co29] rfl ?_; (with_reducible refine (laws_eqInt64S.calls k _ _ t341 _ _ t332 true _ ?side1 ?side2 ?side3 ?side4 A26.out).mono ?_); (case side1 => repeat (first | exact (Kd.R_reads' HO343.out).2.2 | (with_reducible refine Kd.C_alloc ?_ _) | (with_reducible refine Kd.C_drewN ?_ _) | (with_reducible refine Kd.C_drew ?_))); (case side2 => exact (Kd.R_reads' HO343.out).2.1); (case side3 => repeat (first | exact (Kd.R_reads' HO334.out).2.2 | (with_reducible refine Kd.C_alloc ?_ _) | (with_reducible refine Kd.C_drewN ?_ _) | (with_reducible refine Kd.C_drew ?_))); (case side4 => exact (Kd.R_reads' HO334.out).2.1); rintro e w' ⟨rfl, ⟨nd, rfl⟩⟩; refine ⟨_, rfl, ?_⟩))
    go_meet
    case rel => exact ⟨_, ((t344 != t335)), (by first | rfl | (simp; done) | (simp [*]; done)), H', ⟨by first | omega | exact Nat.le_refl _⟩, ⟨by (with_reducible repeat (first | apply Kd.R_alloc | apply Kd.R_drewN | apply Kd.R_drew)); exact Kd.R_mono HO334.out (fun _ hk => ⟨hk.2, hk.1.2⟩)⟩, ⟨by (with_reducible repeat (first | apply Kd.R_alloc | apply Kd.R_drewN | apply Kd.R_drew)); exact Kd.R_mono HO343.out (fun _ hk => ⟨hk.1.2, hk.2⟩)⟩, ⟨by (with_reducible repeat (first | apply Kd.R_alloc | apply Kd.R_drewN | apply Kd.R_drew)); exact Kd.R_mono HO339.out (fun _ hk => ⟨hk.1.2, hk.2⟩)⟩, ⟨by (with_reducible repeat (first | refine blk_drewN ?_ _ | refine blk_drew ?_ | refine blk_alloc ?_ _)); exact BK326.out⟩, ⟨by (with_reducible repeat (first | refine blk_drewN ?_ _ | refine blk_drew ?_ | refine blk_alloc ?_ _)); exact BK340.out⟩, ⟨by repeat (first | (with_reducible first | exact HB.out | apply below_alloc | apply pw_below_drewN | apply below_drew1 | refine below_set ?_ GE326.out | refine below_set ?_ GE340.out) | exact HB.out)⟩⟩
   ·replace c27 := Bool.eq_false_iff.mpr c27
    subst c27
    have H1 : (laws_FnExactHexMoves.j0 k t332 t335 t341 t344 true a0_0 l0_1 t336 t337) = some true := by rw [if_neg (show ¬ (false = true) by decide)] at H; exact H
    clear H
    have H := H1
    clear H1
    have H' := Aside0.mk H
    clear H
    obtain ⟨Ao30, co30, eo30⟩ := Kd.R_slice HO343.out
    subst eo30
    obtain ⟨Ao31, co31, eo31⟩ := Kd.R_slice HO334.out
    subst eo31
    go_wp2_with (first | ((with_reducible refine gate_callee (f := 13) rfl ?_); refine goesA_ (some 34) rfl rfl Tryd.func13 (by kernel_rfl) rfl #[.slice Ao30 t341.length co30, .slice Ao31 t332.length co31] rfl ?_; (with_reducible refine (laws_eqInt64S.calls k _ _ t341 _ _ t332 false _ ?side1 ?side2 ?side3 ?side4 A26.out).mono ?_); (case side1 => repeat (first | exact (Kd.R_reads' HO343.out).2.2 | (with_reducible refine Kd.C_alloc ?_ _) | (with_reducible refine Kd.C_drewN ?_ _) | (with_reducible refine Kd.C_drew ?_))); (case side2 => exact (Kd.R_reads' HO343.out).2.1); (case side3 => repeat (first | exact (Kd.R_reads' HO334.out).2.2 | (with_reducible refine Kd.C_alloc ?_ _) | (with_reducible refine Kd.C_drewN ?_ _) | (with_reducible refine Kd.C_drew ?_))); (case side4 => exact (Kd.R_reads' HO334.out).2.1); rintro e w' ⟨rfl, ⟨nd, rfl⟩⟩; refine ⟨_, rfl, ?_⟩))
    go_meet
    case rel => exact ⟨_, (true), (by first | rfl | (simp; done) | (simp [*]; done)), H', ⟨by first | omega | exact Nat.le_refl _⟩, ⟨by (with_reducible repeat (first | apply Kd.R_alloc | apply Kd.R_drewN | apply Kd.R_drew)); exact Kd.R_mono HO334.out (fun _ hk => ⟨hk.2, hk.1.2⟩)⟩, ⟨by (with_reducible repeat (first | apply Kd.R_alloc | apply Kd.R_drewN | apply Kd.R_drew)); exact Kd.R_mono HO343.out (fun _ hk => ⟨hk.1.2, hk.2⟩)⟩, ⟨by (with_reducible repeat (first | apply Kd.R_alloc | apply Kd.R_drewN | apply Kd.R_drew)); exact Kd.R_mono HO339.out (fun _ hk => ⟨hk.1.2, hk.2⟩)⟩, ⟨by (with_reducible repeat (first | refine blk_drewN ?_ _ | refine blk_drew ?_ | refine blk_alloc ?_ _)); exact BK326.out⟩, ⟨by (with_reducible repeat (first | refine blk_drewN ?_ _ | refine blk_drew ?_ | refine blk_alloc ?_ _)); exact BK340.out⟩, ⟨by repeat (first | (with_reducible first | exact HB.out | apply below_alloc | apply pw_below_drewN | apply below_drew1 | refine below_set ?_ GE326.out | refine below_set ?_ GE340.out) | exact HB.out)⟩⟩
  case rest =>
   clear HC11
   (try clear c1); (try clear c2); (try clear p2); (try clear c3); (try clear c3b0); (try clear c4); (try clear c6); (try clear c8); (try clear c11); (try clear c12); (try clear c13); (try clear c22); (try clear c27); (try clear hcz13_0); (try clear hcz13_1); (try clear hcz15_0); (try clear hcz15_1); (try clear hcz19_0); (try clear hcz19_1); (try clear hcz23_0); (try clear hcz23_1); (try clear hcz5_0); (try clear hcz5_1); (try clear hfz13_0); (try clear hfz13_1); (try clear hfz15_0); (try clear hfz15_1); (try clear hfz19_0); (try clear hfz19_1); (try clear hfz23_0); (try clear hfz23_1); (try clear hfz5_0); (try clear hfz5_1)
   obtain ⟨kq, x40_10, rfl, HA, HJ10, HO_4, HO_7, HO_341001, BK326, BK340, HB⟩ := hcut
   cases kq with
   | zero => exact absurd HA.out (by simp [laws_FnExactHexMoves.j0])
   | succ kj10 =>
    have H := HA.out
    clear HA
    simp only [laws_FnExactHexMoves.j0] at H
    by_cases c32 : x40_10 = true
    ·subst c32
     have H1 : (some false) = some true := by rw [if_pos rfl] at H; exact H
     clear H
     have H := H1
     clear H1
     exact absurd H (by simp)
    ·replace c32 := Bool.eq_false_iff.mpr c32
     subst c32
     have H1 : ((laws_toHex.f kj10 a0_0 l0_1).bind fun bt346 => ((laws_eqHex.f kj10 t336 t337 bt346.1 bt346.2).bind fun t350 => (if t350 = true then ((laws_markHex.f kj10 t336 t337 1).bind fun bt351 => (if bt351.1 < 0 then (laws_FnExactHexMoves.j1 kj10 t332 t335 t341 true a0_0 l0_1) else ((laws_eqInt64S.f kj10 t341 t332).bind fun t353 => (if t353 = true then (laws_FnExactHexMoves.j1 kj10 t332 t335 t341 (t344 != t335) a0_0 l0_1) else (laws_FnExactHexMoves.j1 kj10 t332 t335 t341 true a0_0 l0_1))))) else (some false)))) = some true := by rw [if_neg (show ¬ (false = true) by decide)] at H; exact H
     clear H
     have H := H1
     clear H1
     replace H := Option.bind_eq_some_iff.mp H
     obtain ⟨⟨t346, t347⟩, A330, H⟩ := H
     replace H : ((laws_eqHex.f kj10 t336 t337 t346 t347).bind fun t350 => (if t350 = true then ((laws_markHex.f kj10 t336 t337 1).bind fun bt351 => (if bt351.1 < 0 then (laws_FnExactHexMoves.j1 kj10 t332 t335 t341 true a0_0 l0_1) else ((laws_eqInt64S.f kj10 t341 t332).bind fun t353 => (if t353 = true then (laws_FnExactHexMoves.j1 kj10 t332 t335 t341 (t344 != t335) a0_0 l0_1) else (laws_FnExactHexMoves.j1 kj10 t332 t335 t341 true a0_0 l0_1))))) else (some false))) = some true := H
     have A33 := Aside0.mk A330
     clear A330
     replace H := Option.bind_eq_some_iff.mp H
     obtain ⟨t350, A340, H⟩ := H
     replace H : (if t350 = true then ((laws_markHex.f kj10 t336 t337 1).bind fun bt351 => (if bt351.1 < 0 then (laws_FnExactHexMoves.j1 kj10 t332 t335 t341 true a0_0 l0_1) else ((laws_eqInt64S.f kj10 t341 t332).bind fun t353 => (if t353 = true then (laws_FnExactHexMoves.j1 kj10 t332 t335 t341 (t344 != t335) a0_0 l0_1) else (laws_FnExactHexMoves.j1 kj10 t332 t335 t341 true a0_0 l0_1))))) else (some false)) = some true := H
     have A34 := Aside0.mk A340
     clear A340
     by_cases c35 : t350 = true
     ·subst c35
      have H1 : ((laws_markHex.f kj10 t336 t337 1).bind fun bt351 => (if bt351.1 < 0 then (laws_FnExactHexMoves.j1 kj10 t332 t335 t341 true a0_0 l0_1) else ((laws_eqInt64S.f kj10 t341 t332).bind fun t353 => (if t353 = true then (laws_FnExactHexMoves.j1 kj10 t332 t335 t341 (t344 != t335) a0_0 l0_1) else (laws_FnExactHexMoves.j1 kj10 t332 t335 t341 true a0_0 l0_1))))) = some true := by rw [if_pos rfl] at H; exact H
      clear H
      have H := H1
      clear H1
      replace H := Option.bind_eq_some_iff.mp H
      obtain ⟨⟨t351, t352⟩, A360, H⟩ := H
      replace H : (if t351 < 0 then (laws_FnExactHexMoves.j1 kj10 t332 t335 t341 true a0_0 l0_1) else ((laws_eqInt64S.f kj10 t341 t332).bind fun t353 => (if t353 = true then (laws_FnExactHexMoves.j1 kj10 t332 t335 t341 (t344 != t335) a0_0 l0_1) else (laws_FnExactHexMoves.j1 kj10 t332 t335 t341 true a0_0 l0_1)))) = some true := H
      have A36 := Aside0.mk A360
      clear A360
      have HC37 := Aside0.mk H
      clear H
      try go_wp2
      have n0_ := Aside0.mk (Kd.R_drew HO_4.out)
      have n1_ := Aside0.mk (Kd.R_drew HO_7.out)
      have n2_ := Aside0.mk (Kd.R_drew HO_341001.out)
      have n3_ := Aside0.mk (blk_drew BK326.out)
      have n4_ := Aside0.mk (blk_drew BK340.out)
      have n5_ := Aside0.mk (below_drew1 HB.out)
      clear HO_4
      clear HO_7
      clear HO_341001
      clear BK326
      clear BK340
      clear HB
      have HO_4 := n0_
      have HO_7 := n1_
      have HO_341001 := n2_
      have BK326 := n3_
      have BK340 := n4_
      have HB := n5_
      clear n0_ n1_ n2_ n3_ n4_ n5_
      refine start_ (n := 5) (S := fun w' => w'.cell? ⟨gb340, 0, none⟩ = some (.int .i64 t336) ∧ w'.cell? ⟨gb340, 1, none⟩ = some (.slice Ao24 t337.length co24) ∧ w'.cell? ⟨gb326, 0, none⟩ = some (.int .i64 a0_0) ∧ w'.cell? ⟨gb326, 1, none⟩ = some (.slice A0_1 l0_1.length c0_1)) (ds := []) #[false, false, false, false, false] (by kernel_rfl) rfl rfl ⟨(blk_cell BK340.out 0).trans rfl, (blk_cell BK340.out 1).trans rfl, (blk_cell BK326.out 0).trans rfl, (blk_cell BK326.out 1).trans rfl⟩ (fun hHeld => ?_)
      generalize wc.drew = w38 at HO_4 HO_7 HO_341001 BK326 BK340 HB hHeld ⊢
      refine take_ (i := 0) (N := some 41) (v := ?_) (a' := ?_) #[true, false, false, false, false] rfl rfl (by kernel_rfl) (fun _ _ _ h => h) (Or.inl ⟨by rfl, ?_⟩) hHeld ?_ ?_
      rotate_left; (· (rintro w' ⟨s0, s1, s2, s3⟩; go_simp; with_reducible rfl)); rotate_left; (· (simp only [Act.put, sz_, s0_, s1_, i64_w, i32_w]; rfl))
      refine take_ (i := 1) (N := some 42) (v := ?_) (a' := ?_) #[true, true, false, false, false] rfl rfl (by kernel_rfl) (fun _ _ _ h => h) (Or.inl ⟨by rfl, ?_⟩) hHeld ?_ ?_
      rotate_left; (· (rintro w' ⟨s0, s1, s2, s3⟩; go_simp; with_reducible rfl)); rotate_left; (· (simp only [Act.put, sz_, s0_, s1_, i64_w, i32_w]; rfl))
      refine one_ (i := 2) (N := some 43) #[true, true, true, false, false] rfl rfl (by kernel_rfl) (by decide) (fun K hK => ?_)
      refine goes_ Tryd.func8 (by kernel_rfl) rfl #[.agg #[.int .i64 a0_0, .slice A0_1 l0_1.length c0_1]] (by rfl) rfl rfl (by (try simp only [List.map_toArray, List.map_cons, List.map_nil]); first | done | rfl | (simp only [List.length_drop, List.length_take]; rfl)) ?_
      with_reducible refine (laws_toHex.calls kj10 a0_0 _ _ l0_1 t346 t347 _ ?side1 ?side2 A33.out).mono ?_
      (case side1 => repeat (first | exact (Kd.C_below HR0_1.out HB.out) | (with_reducible refine Kd.C_alloc ?_ _) | (with_reducible refine Kd.C_drewN ?_ _) | (with_reducible refine Kd.C_drew ?_)))
      (case side2 => exact HC0_1.out)
      rintro e w39 ⟨v348, rfl, ho0, hb⟩
      refine ⟨_, rfl, ?_⟩
      have n0_ := Aside0.mk (Kd.R_elder' (by (with_reducible repeat (first | apply Kd.R_alloc | apply Kd.R_drewN | apply Kd.R_drew)); exact HO_4.out) (Kd.R_base ho0) hb)
      have n1_ := Aside0.mk (Kd.R_elder' (by (with_reducible repeat (first | apply Kd.R_alloc | apply Kd.R_drewN | apply Kd.R_drew)); exact HO_7.out) (Kd.R_base ho0) hb)
      have n2_ := Aside0.mk (Kd.R_elder' (by (with_reducible repeat (first | apply Kd.R_alloc | apply Kd.R_drewN | apply Kd.R_drew)); exact HO_341001.out) (Kd.R_base ho0) hb)
      have n3_ := Aside0.mk (Kd.R_lower (Kd.R_new' (Kd.R_new' (Kd.R_new' ho0 (Kd.R_lt (by (with_reducible repeat (first | apply Kd.R_alloc | apply Kd.R_drewN | apply Kd.R_drew)); exact HO_4.out))) (Kd.R_lt (by (with_reducible repeat (first | apply Kd.R_alloc | apply Kd.R_drewN | apply Kd.R_drew)); exact HO_7.out))) (Kd.R_lt (by (with_reducible repeat (first | apply Kd.R_alloc | apply Kd.R_drewN | apply Kd.R_drew)); exact HO_341001.out))) (below_size (by repeat (first | (with_reducible first | exact HB.out | apply below_alloc | apply pw_below_drewN | apply below_drew1 | refine below_set ?_ GE326.out | refine below_set ?_ GE340.out) | exact HB.out))))
      have n4_ := Aside0.mk (blk_below (g := gb326) (o := .cells #[.int .i64 a0_0, .slice A0_1 l0_1.length c0_1] 24 (0, 0)) (by (with_reducible repeat (first | refine blk_drewN ?_ _ | refine blk_drew ?_ | refine blk_alloc ?_ _)); exact BK326.out) hb)
      have n5_ := Aside0.mk (blk_below (g := gb340) (o := .cells #[.int .i64 t336, .slice Ao24 t337.length co24] 28 (0, 0)) (by (with_reducible repeat (first | refine blk_drewN ?_ _ | refine blk_drew ?_ | refine blk_alloc ?_ _)); exact BK340.out) hb)
      have n6_ := Aside0.mk (below_step (by repeat (first | (with_reducible first | exact HB.out | apply below_alloc | apply pw_below_drewN | apply below_drew1 | refine below_set ?_ GE326.out | refine below_set ?_ GE340.out) | exact HB.out)) hb)
      clear HO_4
      clear HO_7
      clear HO_341001
      clear BK326
      clear BK340
      clear HB
      have HO_4 := n0_
      have HO_7 := n1_
      have HO_341001 := n2_
      have HO349 := n3_
      have BK326 := n4_
      have BK340 := n5_
      have HB := n6_
      clear n0_ n1_ n2_ n3_ n4_ n5_ n6_
      (try clear hb)
      (try clear hb2)
      (try clear hk)
      (try clear hi)
      (try clear ho0)
      obtain ⟨Ao40, co40, eo40⟩ := Kd.R_slice HO349.out
      (first | subst eo40 | (injection eo40 with f1_ f2_ f3_; have f4_ := f1_.symm; have f5_ := f3_.symm; clear f1_ f2_ f3_; subst f4_; subst f5_))
      refine hK.out _ _ ⟨(blk_cell BK340.out 0).trans rfl, (blk_cell BK340.out 1).trans rfl, (blk_cell BK326.out 0).trans rfl, (blk_cell BK326.out 1).trans rfl⟩ (fun hHeld => ?_)
      clear hK K
      refine norm_ (a' := ?_) ?_ ?_
      rotate_left
      ·show Act.put _ (some 43) _ = _
       simp only [Act.put, sz_, s0_, s1_, i64_w, i32_w]
       rfl
      refine one_ (i := 3) (N := some 44) #[true, true, true, true, false] rfl rfl (by kernel_rfl) (by decide) (fun K hK => ?_)
      refine goes_ Tryd.func10 (by kernel_rfl) rfl #[.agg #[.int .i64 t336, .slice Ao24 t337.length co24], .agg #[.int .i64 t346, .slice Ao40 t347.length co40]] (by rfl) rfl rfl (by (try simp only [List.map_toArray, List.map_cons, List.map_nil]); first | done | rfl | (simp only [List.length_drop, List.length_take]; rfl)) ?_
      with_reducible refine (laws_eqHex.calls kj10 t336 _ _ t337 t346 _ _ t347 true _ ?side1 ?side2 ?side3 ?side4 A34.out).mono ?_
      (case side1 => repeat (first | exact (Kd.R_reads' HO_341001.out).2.2 | (with_reducible refine Kd.C_alloc ?_ _) | (with_reducible refine Kd.C_drewN ?_ _) | (with_reducible refine Kd.C_drew ?_)))
      (case side2 => exact (Kd.R_reads' HO_341001.out).2.1)
      (case side3 => repeat (first | exact (Kd.R_reads' HO349.out).2.2 | (with_reducible refine Kd.C_alloc ?_ _) | (with_reducible refine Kd.C_drewN ?_ _) | (with_reducible refine Kd.C_drew ?_)))
      (case side4 => exact (Kd.R_reads' HO349.out).2.1)
      rintro e w41 ⟨rfl, hb⟩
      refine ⟨_, rfl, ?_⟩
      have n0_ := Aside0.mk (Kd.R_below (by (with_reducible repeat (first | apply Kd.R_alloc | apply Kd.R_drewN | apply Kd.R_drew)); exact HO_4.out) hb)
      have n1_ := Aside0.mk (Kd.R_below (by (with_reducible repeat (first | apply Kd.R_alloc | apply Kd.R_drewN | apply Kd.R_drew)); exact HO_7.out) hb)
      have n2_ := Aside0.mk (Kd.R_below (by (with_reducible repeat (first | apply Kd.R_alloc | apply Kd.R_drewN | apply Kd.R_drew)); exact HO_341001.out) hb)
      have n3_ := Aside0.mk (Kd.R_below (by (with_reducible repeat (first | apply Kd.R_alloc | apply Kd.R_drewN | apply Kd.R_drew)); exact HO349.out) hb)
      have n4_ := Aside0.mk (blk_below (g := gb326) (o := .cells #[.int .i64 a0_0, .slice A0_1 l0_1.length c0_1] 24 (0, 0)) (by (with_reducible repeat (first | refine blk_drewN ?_ _ | refine blk_drew ?_ | refine blk_alloc ?_ _)); exact BK326.out) hb)
      have n5_ := Aside0.mk (blk_below (g := gb340) (o := .cells #[.int .i64 t336, .slice Ao24 t337.length co24] 28 (0, 0)) (by (with_reducible repeat (first | refine blk_drewN ?_ _ | refine blk_drew ?_ | refine blk_alloc ?_ _)); exact BK340.out) hb)
      have n6_ := Aside0.mk (below_step (by repeat (first | (with_reducible first | exact HB.out | apply below_alloc | apply pw_below_drewN | apply below_drew1 | refine below_set ?_ GE326.out | refine below_set ?_ GE340.out) | exact HB.out)) hb)
      clear HO_4
      clear HO_7
      clear HO_341001
      clear HO349
      clear BK326
      clear BK340
      clear HB
      have HO_4 := n0_
      have HO_7 := n1_
      have HO_341001 := n2_
      have HO349 := n3_
      have BK326 := n4_
      have BK340 := n5_
      have HB := n6_
      clear n0_ n1_ n2_ n3_ n4_ n5_ n6_
      (try clear hb)
      (try clear hb2)
      (try clear hk)
      (try clear hi)
      refine hK.out _ _ ⟨(blk_cell BK340.out 0).trans rfl, (blk_cell BK340.out 1).trans rfl, (blk_cell BK326.out 0).trans rfl, (blk_cell BK326.out 1).trans rfl⟩ (fun hHeld => ?_)
      clear hK K
      refine norm_ (a' := ?_) ?_ ?_
      rotate_left
      ·show Act.put _ (some 44) _ = _
       simp only [Act.put, sz_, s0_, s1_, i64_w, i32_w]
       rfl
      refine pure_ (i := 4) (N := some 45) (v := ?_) (a' := ?_) #[true, true, true, true, true] rfl rfl (by kernel_rfl) (fun _ _ _ h => h) (Or.inl ⟨by rfl, ?_⟩) ?_ ?_
      rotate_left; (· (intro w'; go_simp; with_reducible rfl)); rotate_left; (· (simp only [Act.put, sz_, s0_, s1_, i64_w, i32_w]; rfl))
      refine done_ (by kernel_rfl) ?_
      have hnb42 := NB340_326.out
      have hnc42 := NB326_340.out
      have hcz43_0 : w41.cell? ⟨gb340, 0, none⟩ = some (.int .i64 t336) := (blk_cell BK340.out 0).trans rfl
      have hcz43_1 : w41.cell? ⟨gb340, 1, none⟩ = some (.slice Ao24 t337.length co24) := (blk_cell BK340.out 1).trans rfl
      have hfz43_0 := blk_frozen BK340.out 0
      have hfz43_1 := blk_frozen BK340.out 1
      go_upto_region 14 with (first | ((with_reducible refine gate_callee (f := 14) rfl ?_); refine goesA_ (some 48) rfl rfl Tryd.func14 (by kernel_rfl) rfl #[.agg #[.int .i64 t336, .slice Ao24 t337.length co24], .int .i64 1] rfl ?_; (with_reducible refine (laws_markHex.calls kj10 t336 (fun k_ => some k_ = (.slice Ao24 t337.length co24 : Value).ownBlock) (.slice Ao24 t337.length co24) t337 1 t351 t352 w _ ?side1 ?side2 A36.out).mono ?_); (case side1 => repeat (first | (with_reducible first | exact HB.out | apply below_alloc | apply pw_below_drewN | apply below_drew1 | refine below_set ?_ GE326.out | refine below_set ?_ GE340.out) | exact HB.out)); (case side2 => exact Kd.R_tight rfl HO_341001.out); rintro e w44 ⟨rfl, hy0, hb, hkp⟩; refine ⟨_, rfl, ?_⟩; have n0_ := Aside0.mk (Kd.R_mono (ok' := fun k_ => some k_ ≠ (v342 : Value).ownBlock ∧ some k_ ≠ (.slice Ao24 t337.length co24 : Value).ownBlock ∧ some k_ ≠ (.slice Ao40 t347.length co40 : Value).ownBlock) (Kd.R_keptB (HO_4.out) hkp (fun k_ hk_ hs_ => (hk_.1.2) hs_)) (fun k_ hk_ => ⟨hk_.1.1.1, hk_.1.1.2, hk_.1.2⟩)); have n1_ := Aside0.mk (Kd.R_mono (ok' := fun k_ => some k_ ≠ (v333 : Value).ownBlock ∧ some k_ ≠ (.slice Ao24 t337.length co24 : Value).ownBlock ∧ some k_ ≠ (.slice Ao40 t347.length co40 : Value).ownBlock) (Kd.R_keptB (HO_7.out) hkp (fun k_ hk_ hs_ => (hk_.1.2) hs_)) (fun k_ hk_ => ⟨hk_.1.1.1, hk_.1.1.2, hk_.1.2⟩)); have n2_ := Aside0.mk (Kd.R_reok rfl hy0 (fun k_ e_ => HO_341001.out.1 k_ e_)); have n3_ := Aside0.mk (blk_kept (by (with_reducible repeat (first | refine blk_drewN ?_ _ | refine blk_drew ?_ | refine blk_alloc ?_ _)); exact BK326.out) hkp (fun hs_ => (fun e_ => (Kd.R_ne HO_341001.out BK326.out (by decide)) e_) hs_)); have n4_ := Aside0.mk (blk_kept (by (with_reducible repeat (first | refine blk_drewN ?_ _ | refine blk_drew ?_ | refine blk_alloc ?_ _)); exact BK340.out) hkp (fun hs_ => (fun e_ => (Kd.R_ne HO_341001.out BK340.out (by decide)) e_) hs_)); have n5_ := Aside0.mk (Kd.R_mono (ok' := fun k_ => some k_ ≠ (v333 : Value).ownBlock ∧ some k_ ≠ (v342 : Value).ownBlock ∧ some k_ ≠ (.slice Ao24 t337.length co24 : Value).ownBlock) (Kd.R_keptB (HO349.out) hkp (fun k_ hk_ hs_ => (hk_.2) hs_)) (fun k_ hk_ => ⟨hk_.1.1.1.2, hk_.1.1.2, hk_.1.2⟩)); have n6_ := Aside0.mk (hb); clear HO_4; clear HO_7; clear HO_341001; clear BK326; clear BK340; clear HO349; clear HB; have HO_4 := n0_; have HO_7 := n1_; have HO_341001 := n2_; have BK326 := n3_; have BK340 := n4_; have HO349 := n5_; have HB := n6_; clear n0_ n1_ n2_ n3_ n4_ n5_ n6_; (try clear hb); (try clear hkp); (try clear hy0)))
      (try simp only [Act.put, List.setIfInBounds_toArray, List.set_cons_zero, List.set_cons_succ])
      go_cut [61] (fun v61 wc => ∃ (kq : Nat) (x61_36 : Bool), v61 = .bool x61_36 ∧ Aside0 (laws_FnExactHexMoves.j1 kq t332 t335 t341 x61_36 a0_0 l0_1 = some true) ∧ Aside0 (kq ≤ kj10) ∧ Aside0 (Kd.R (Kd.int .i64) 2 wc w.heap.size (fun k_ => some k_ ≠ (v342 : Value).ownBlock ∧ some k_ ≠ ((.slice Ao24 t337.length co24) : Value).ownBlock) v333 t332) ∧ Aside0 (Kd.R (Kd.int .i64) 2 wc w.heap.size (fun k_ => some k_ ≠ (v333 : Value).ownBlock ∧ some k_ ≠ ((.slice Ao24 t337.length co24) : Value).ownBlock) v342 t341) ∧ Aside0 (Kd.R (Kd.int .i64) 2 wc w.heap.size (fun k_ => some k_ ≠ (v333 : Value).ownBlock ∧ some k_ ≠ (v342 : Value).ownBlock) (.slice Ao24 t337.length co24) t352) ∧ Aside0 (wc.heap[gb326]? = some (.cells #[.int .i64 a0_0, (.slice A0_1 l0_1.length c0_1)] 24 (0, 0))) ∧ Aside0 (wc.heap[gb340]? = some (.cells #[.int .i64 t336, (.slice Ao24 t337.length co24)] 28 (0, 0))) ∧ Aside0 (Below w.heap.size w wc))
      case first =>
       have H := HC37.out
       clear HC37
       by_cases c45 : t351 < 0
       ·rw [if_pos c45] at H
        have c45b0 : decide (t351 < 0) = true := decide_eq_true c45
        clear c45
        (first | rw [c45b0] | (simp only [i64_w, i32_w]; rw [c45b0]) | skip)
        have H' := Aside0.mk H
        clear H
        go_wp2
        go_meet
        case rel => exact ⟨_, (true), (by first | rfl | (simp; done) | (simp [*]; done)), H', ⟨by have := HJ10.out; first | omega | exact Nat.le_refl _⟩, ⟨by (with_reducible repeat (first | apply Kd.R_alloc | apply Kd.R_drewN | apply Kd.R_drew)); exact Kd.R_mono HO_4.out (fun _ hk => ⟨hk.1, hk.2.1⟩)⟩, ⟨by (with_reducible repeat (first | apply Kd.R_alloc | apply Kd.R_drewN | apply Kd.R_drew)); exact Kd.R_mono HO_7.out (fun _ hk => ⟨hk.1, hk.2.1⟩)⟩, ⟨by (with_reducible repeat (first | apply Kd.R_alloc | apply Kd.R_drewN | apply Kd.R_drew)); exact Kd.R_mono HO_341001.out (fun _ hk => ⟨hk.1.1, hk.1.2⟩)⟩, ⟨by (with_reducible repeat (first | refine blk_drewN ?_ _ | refine blk_drew ?_ | refine blk_alloc ?_ _)); exact BK326.out⟩, ⟨by (with_reducible repeat (first | refine blk_drewN ?_ _ | refine blk_drew ?_ | refine blk_alloc ?_ _)); exact BK340.out⟩, ⟨by repeat (first | (with_reducible first | exact HB.out | apply below_alloc | apply pw_below_drewN | apply below_drew1 | refine below_set ?_ GE326.out | refine below_set ?_ GE340.out) | exact HB.out)⟩⟩
       ·rw [if_neg c45] at H
        have c45b0 : decide (t351 < 0) = false := decide_eq_false c45
        clear c45
        (first | rw [c45b0] | (simp only [i64_w, i32_w]; rw [c45b0]) | skip)
        replace H := Option.bind_eq_some_iff.mp H
        obtain ⟨t353, A460, H⟩ := H
        replace H : (if t353 = true then (laws_FnExactHexMoves.j1 kj10 t332 t335 t341 (t344 != t335) a0_0 l0_1) else (laws_FnExactHexMoves.j1 kj10 t332 t335 t341 true a0_0 l0_1)) = some true := H
        have A46 := Aside0.mk A460
        clear A460
        by_cases c47 : t353 = true
        ·subst c47
         have H1 : (laws_FnExactHexMoves.j1 kj10 t332 t335 t341 (t344 != t335) a0_0 l0_1) = some true := by rw [if_pos rfl] at H; exact H
         clear H
         have H := H1
         clear H1
         have H' := Aside0.mk H
         clear H
         obtain ⟨Ao48, co48, eo48⟩ := Kd.R_slice HO_7.out
         subst eo48
         obtain ⟨Ao49, co49, eo49⟩ := Kd.R_slice HO_4.out
         subst eo49
         go_wp2_with (first | (go_at_call 13; (with_reducible refine (laws_eqInt64S.calls kj10 _ _ t341 _ _ t332 true _ ?side1 ?side2 ?side3 ?side4 A46.out).mono ?_); (case side1 => repeat (first | exact (Kd.R_reads' HO_7.out).2.2 | (with_reducible refine Kd.C_alloc ?_ _) | (with_reducible refine Kd.C_drewN ?_ _) | (with_reducible refine Kd.C_drew ?_))); (case side2 => exact (Kd.R_reads' HO_7.out).2.1); (case side3 => repeat (first | exact (Kd.R_reads' HO_4.out).2.2 | (with_reducible refine Kd.C_alloc ?_ _) | (with_reducible refine Kd.C_drewN ?_ _) | (with_reducible refine Kd.C_drew ?_))); (case side4 => exact (Kd.R_reads' HO_4.out).2.1); rintro e w' ⟨rfl, ⟨nd, rfl⟩⟩))
         go_meet
         case rel => exact ⟨_, ((t344 != t335)), (by first | rfl | (simp; done) | (simp [*]; done)), H', ⟨by have := HJ10.out; first | omega | exact Nat.le_refl _⟩, ⟨by (with_reducible repeat (first | apply Kd.R_alloc | apply Kd.R_drewN | apply Kd.R_drew)); exact Kd.R_mono HO_4.out (fun _ hk => ⟨hk.1, hk.2.1⟩)⟩, ⟨by (with_reducible repeat (first | apply Kd.R_alloc | apply Kd.R_drewN | apply Kd.R_drew)); exact Kd.R_mono HO_7.out (fun _ hk => ⟨hk.1, hk.2.1⟩)⟩, ⟨by (with_reducible repeat (first | apply Kd.R_alloc | apply Kd.R_drewN | apply Kd.R_drew)); exact Kd.R_mono HO_341001.out (fun _ hk => ⟨hk.1.1, hk.1.2⟩)⟩, ⟨by (with_reducible repeat (first | refine blk_drewN ?_ _ | refine blk_drew ?_ | refine blk_alloc ?_ _)); exact BK326.out⟩, ⟨by (with_reducible repeat (first | refine blk_drewN ?_ _ | refine blk_drew ?_ | refine blk_alloc ?_ _)); exact BK340.out⟩, ⟨by repeat (first | (with_reducible first | exact HB.out | apply below_alloc | apply pw_below_drewN | apply below_drew1 | refine below_set ?_ GE326.out | refine below_set ?_ GE340.out) | exact HB.out)⟩⟩
        ·replace c47 := Bool.eq_false_iff.mpr c47
         subst c47
         have H1 : (laws_FnExactHexMoves.j1 kj10 t332 t335 t341 true a0_0 l0_1) = some true := by rw [if_neg (show ¬ (false = true) by decide)] at H; exact H
         clear H
         have H := H1
         clear H1
         have H' := Aside0.mk H
         clear H
         obtain ⟨Ao50, co50, eo50⟩ := Kd.R_slice HO_7.out
         subst eo50
         obtain ⟨Ao51, co51, eo51⟩ := Kd.R_slice HO_4.out
         subst eo51
         go_wp2_with (first | (go_at_call 13; (with_reducible refine (laws_eqInt64S.calls kj10 _ _ t341 _ _ t332 false _ ?side1 ?side2 ?side3 ?side4 A46.out).mono ?_); (case side1 => repeat (first | exact (Kd.R_reads' HO_7.out).2.2 | (with_reducible refine Kd.C_alloc ?_ _) | (with_reducible refine Kd.C_drewN ?_ _) | (with_reducible refine Kd.C_drew ?_))); (case side2 => exact (Kd.R_reads' HO_7.out).2.1); (case side3 => repeat (first | exact (Kd.R_reads' HO_4.out).2.2 | (with_reducible refine Kd.C_alloc ?_ _) | (with_reducible refine Kd.C_drewN ?_ _) | (with_reducible refine Kd.C_drew ?_))); (case side4 => exact (Kd.R_reads' HO_4.out).2.1); rintro e w' ⟨rfl, ⟨nd, rfl⟩⟩))
         go_meet
         case rel => exact ⟨_, (true), (by first | rfl | (simp; done) | (simp [*]; done)), H', ⟨by have := HJ10.out; first | omega | exact Nat.le_refl _⟩, ⟨by (with_reducible repeat (first | apply Kd.R_alloc | apply Kd.R_drewN | apply Kd.R_drew)); exact Kd.R_mono HO_4.out (fun _ hk => ⟨hk.1, hk.2.1⟩)⟩, ⟨by (with_reducible repeat (first | apply Kd.R_alloc | apply Kd.R_drewN | apply Kd.R_drew)); exact Kd.R_mono HO_7.out (fun _ hk => ⟨hk.1, hk.2.1⟩)⟩, ⟨by (with_reducible repeat (first | apply Kd.R_alloc | apply Kd.R_drewN | apply Kd.R_drew)); exact Kd.R_mono HO_341001.out (fun _ hk => ⟨hk.1.1, hk.1.2⟩)⟩, ⟨by (with_reducible repeat (first | refine blk_drewN ?_ _ | refine blk_drew ?_ | refine blk_alloc ?_ _)); exact BK326.out⟩, ⟨by (with_reducible repeat (first | refine blk_drewN ?_ _ | refine blk_drew ?_ | refine blk_alloc ?_ _)); exact BK340.out⟩, ⟨by repeat (first | (with_reducible first | exact HB.out | apply below_alloc | apply pw_below_drewN | apply below_drew1 | refine below_set ?_ GE326.out | refine below_set ?_ GE340.out) | exact HB.out)⟩⟩
      case rest =>
       clear HC37
       (try clear c1); (try clear c2); (try clear p2); (try clear c3); (try clear c3b0); (try clear c4); (try clear c6); (try clear c8); (try clear c10); (try clear c11); (try clear c12); (try clear c13); (try clear c14); (try clear c22); (try clear c27); (try clear c32); (try clear c35); (try clear c42); (try clear c45); (try clear c45b0); (try clear c47); (try clear hcz13_0); (try clear hcz13_1); (try clear hcz15_0); (try clear hcz15_1); (try clear hcz19_0); (try clear hcz19_1); (try clear hcz23_0); (try clear hcz23_1); (try clear hcz43_0); (try clear hcz43_1); (try clear hcz5_0); (try clear hcz5_1); (try clear hfz13_0); (try clear hfz13_1); (try clear hfz15_0); (try clear hfz15_1); (try clear hfz19_0); (try clear hfz19_1); (try clear hfz23_0); (try clear hfz23_1); (try clear hfz43_0); (try clear hfz43_1); (try clear hfz5_0); (try clear hfz5_1); (try clear p2)
       obtain ⟨kq, x61_36, rfl, HA, HJ36, HO_4, HO_7, HO_341001, BK326, BK340, HB⟩ := hcut
       have hl341001_36 := (Kd.R_reads' HO_341001.out).1
       rw [hl341001_36] at HO_341001
       (try simp only [hl341001_36])
       (try simp only [hl341001_36] at BK326)
       (try simp only [hl341001_36] at BK340)
       (try simp only [hl341001_36] at HO_4)
       (try simp only [hl341001_36] at HO_7)
       cases kq with
       | zero => exact absurd HA.out (by simp [laws_FnExactHexMoves.j1])
       | succ kj36 =>
        have H := HA.out
        clear HA
        simp only [laws_FnExactHexMoves.j1] at H
        by_cases c52 : x61_36 = true
        ·subst c52
         have H1 : (some false) = some true := by rw [if_pos rfl] at H; exact H
         clear H
         have H := H1
         clear H1
         exact absurd H (by simp)
        ·replace c52 := Bool.eq_false_iff.mpr c52
         subst c52
         have H1 : ((laws_markInt64S.f kj36 t341 1).bind fun bt354 => ((laws_heldInt64S.f kj36 bt354.2 1).bind fun t356 => (if t356 < 0 then (some false) else (if t356 = bt354.1 then ((laws_toHex.f kj36 a0_0 l0_1).bind fun bt357 => ((impl_HexMoves.f kj36 bt357.1 bt357.2).bind fun bt361 => ((laws_eqInt64S.f kj36 bt361.1 t332).bind fun t365 => (if t365 = true then (laws_FnExactHexMoves.j2 kj36 bt354.2 bt354.1 (bt361.2 != t335)) else (laws_FnExactHexMoves.j2 kj36 bt354.2 bt354.1 true))))) else (some false))))) = some true := by rw [if_neg (show ¬ (false = true) by decide)] at H; exact H
         clear H
         have H := H1
         clear H1
         replace H := Option.bind_eq_some_iff.mp H
         obtain ⟨⟨t354, t355⟩, A530, H⟩ := H
         replace H : ((laws_heldInt64S.f kj36 t355 1).bind fun t356 => (if t356 < 0 then (some false) else (if t356 = t354 then ((laws_toHex.f kj36 a0_0 l0_1).bind fun bt357 => ((impl_HexMoves.f kj36 bt357.1 bt357.2).bind fun bt361 => ((laws_eqInt64S.f kj36 bt361.1 t332).bind fun t365 => (if t365 = true then (laws_FnExactHexMoves.j2 kj36 t355 t354 (bt361.2 != t335)) else (laws_FnExactHexMoves.j2 kj36 t355 t354 true))))) else (some false)))) = some true := H
         have A53 := Aside0.mk A530
         clear A530
         replace H := Option.bind_eq_some_iff.mp H
         obtain ⟨t356, A540, H⟩ := H
         replace H : (if t356 < 0 then (some false) else (if t356 = t354 then ((laws_toHex.f kj36 a0_0 l0_1).bind fun bt357 => ((impl_HexMoves.f kj36 bt357.1 bt357.2).bind fun bt361 => ((laws_eqInt64S.f kj36 bt361.1 t332).bind fun t365 => (if t365 = true then (laws_FnExactHexMoves.j2 kj36 t355 t354 (bt361.2 != t335)) else (laws_FnExactHexMoves.j2 kj36 t355 t354 true))))) else (some false))) = some true := H
         have A54 := Aside0.mk A540
         clear A540
         by_cases c55 : t356 < 0
         ·rw [if_pos c55] at H
          have c55b0 : decide (t356 < 0) = true := decide_eq_true c55
          clear c55
          exact absurd H (by simp)
         ·rw [if_neg c55] at H
          have c55b0 : decide (t356 < 0) = false := decide_eq_false c55
          clear c55
          by_cases c58 : t356 = t354
          ·rw [if_pos c58] at H
           have c58b0 : (t356 == t354) = true := beq_iff_eq.mpr c58
           have c58b1 : (t356 != t354) = false := bne_eq_false_iff_eq.mpr c58
           clear c58
           replace H := Option.bind_eq_some_iff.mp H
           obtain ⟨⟨t357, t358⟩, A590, H⟩ := H
           replace H : ((impl_HexMoves.f kj36 t357 t358).bind fun bt361 => ((laws_eqInt64S.f kj36 bt361.1 t332).bind fun t365 => (if t365 = true then (laws_FnExactHexMoves.j2 kj36 t355 t354 (bt361.2 != t335)) else (laws_FnExactHexMoves.j2 kj36 t355 t354 true)))) = some true := H
           have A59 := Aside0.mk A590
           clear A590
           replace H := Option.bind_eq_some_iff.mp H
           obtain ⟨⟨t361, t364⟩, A600, H⟩ := H
           replace H : ((laws_eqInt64S.f kj36 t361 t332).bind fun t365 => (if t365 = true then (laws_FnExactHexMoves.j2 kj36 t355 t354 (t364 != t335)) else (laws_FnExactHexMoves.j2 kj36 t355 t354 true))) = some true := H
           have A60 := Aside0.mk A600
           clear A600
           have HC61 := Aside0.mk H
           clear H
           obtain ⟨Ao62, co62, eo62⟩ := Kd.R_slice HO_7.out
           subst eo62
           go_upto_region 25 with (first | ((with_reducible refine gate_callee (f := 15) rfl ?_); refine goesA_ (some 64) rfl rfl Tryd.func15 (by kernel_rfl) rfl #[.slice Ao62 t341.length co62, .int .i64 1] rfl ?_; (with_reducible refine (laws_markInt64S.calls kj36 (fun k_ => some k_ = (.slice Ao62 t341.length co62 : Value).ownBlock) (.slice Ao62 t341.length co62) t341 1 t354 t355 w _ ?side1 ?side2 A53.out).mono ?_); (case side1 => repeat (first | (with_reducible first | exact HB.out | apply below_alloc | apply pw_below_drewN | apply below_drew1 | refine below_set ?_ GE326.out | refine below_set ?_ GE340.out) | exact HB.out)); (case side2 => exact Kd.R_tight rfl HO_7.out); rintro e w63 ⟨rfl, hy0, hb, hkp⟩; refine ⟨_, rfl, ?_⟩; have n0_ := Aside0.mk (Kd.R_mono (ok' := fun k_ => some k_ ≠ (.slice Ao62 t341.length co62 : Value).ownBlock ∧ some k_ ≠ (.slice Ao24 t352.length co24 : Value).ownBlock) (Kd.R_keptB (HO_4.out) hkp (fun k_ hk_ hs_ => (hk_.1) hs_)) (fun k_ hk_ => ⟨hk_.1.1, hk_.1.2⟩)); have n1_ := Aside0.mk (Kd.R_reok rfl hy0 (fun k_ e_ => HO_7.out.1 k_ e_)); have n2_ := Aside0.mk (Kd.R_mono (ok' := fun k_ => some k_ ≠ (v333 : Value).ownBlock ∧ some k_ ≠ (.slice Ao62 t341.length co62 : Value).ownBlock) (Kd.R_keptB (HO_341001.out) hkp (fun k_ hk_ hs_ => (hk_.2) hs_)) (fun k_ hk_ => ⟨hk_.1.1, hk_.1.2⟩)); have n3_ := Aside0.mk (blk_kept (by (with_reducible repeat (first | refine blk_drewN ?_ _ | refine blk_drew ?_ | refine blk_alloc ?_ _)); exact BK326.out) hkp (fun hs_ => (fun e_ => (Kd.R_ne HO_7.out BK326.out (by decide)) e_) hs_)); have n4_ := Aside0.mk (blk_kept (by (with_reducible repeat (first | refine blk_drewN ?_ _ | refine blk_drew ?_ | refine blk_alloc ?_ _)); exact BK340.out) hkp (fun hs_ => (fun e_ => (Kd.R_ne HO_7.out BK340.out (by decide)) e_) hs_)); have n5_ := Aside0.mk (hb); clear HO_4; clear HO_7; clear HO_341001; clear BK326; clear BK340; clear HB; have HO_4 := n0_; have HO_7 := n1_; have HO_341001 := n2_; have BK326 := n3_; have BK340 := n4_; have HB := n5_; clear n0_ n1_ n2_ n3_ n4_ n5_; (try clear hb); (try clear hkp); (try clear hy0)) | ((with_reducible refine gate_callee (f := 16) rfl ?_); refine goesL_ (some 67) rfl rfl Tryd.func16 (by kernel_rfl) rfl #[.slice Ao62 t355.length co62, .int .i64 1] rfl (by (try simp only [List.map_toArray, List.map_cons, List.map_nil]); first | done | (rw [show t355.length = t341.length from (Kd.R_reads' HO_7.out).1.symm] <;> rfl) | rfl | (simp only [List.length_drop, List.length_take]; rfl)) ?_; (with_reducible refine (laws_heldInt64S.calls kj36 _ _ t355 1 t356 _ ?side1 ?side2 A54.out).mono ?_); (case side1 => repeat (first | exact (Kd.R_reads' HO_7.out).2.2 | (with_reducible refine Kd.C_alloc ?_ _) | (with_reducible refine Kd.C_drewN ?_ _) | (with_reducible refine Kd.C_drew ?_))); (case side2 => rw [show t355.length = t341.length from (Kd.R_reads' HO_7.out).1.symm]; exact (Kd.R_reads' HO_7.out).2.1); rintro e w' ⟨rfl, ⟨nd, rfl⟩⟩; refine ⟨_, rfl, ?_⟩; have hnb64 := NB326_340.out; have hnc64 := NB340_326.out; have hcz65_0 : w63.cell? ⟨gb326, 0, none⟩ = some (.int .i64 a0_0) := (blk_cell BK326.out 0).trans rfl; have hcz65_1 : w63.cell? ⟨gb326, 1, none⟩ = some (.slice A0_1 l0_1.length c0_1) := (blk_cell BK326.out 1).trans rfl; have hfz65_0 := blk_frozen BK326.out 0; have hfz65_1 := blk_frozen BK326.out 1) | ((with_reducible refine gate_callee (f := 8) rfl ?_); refine goesA_ (some 75) rfl rfl Tryd.func8 (by kernel_rfl) rfl #[.agg #[.int .i64 a0_0, .slice A0_1 l0_1.length c0_1]] rfl ?_; (with_reducible refine (laws_toHex.calls kj36 a0_0 _ _ l0_1 t357 t358 _ ?side1 ?side2 A59.out).mono ?_); (case side1 => repeat (first | exact (Kd.C_below HR0_1.out (by repeat (first | (with_reducible first | exact HB.out | apply below_alloc | apply pw_below_drewN | apply below_drew1 | refine below_set ?_ GE326.out | refine below_set ?_ GE340.out) | exact HB.out))) | (with_reducible refine Kd.C_alloc ?_ _) | (with_reducible refine Kd.C_drewN ?_ _) | (with_reducible refine Kd.C_drew ?_))); (case side2 => exact HC0_1.out); rintro e w66 ⟨v359, rfl, ho0, hb⟩; refine ⟨_, rfl, ?_⟩; have n0_ := Aside0.mk (Kd.R_elder' (by (with_reducible repeat (first | apply Kd.R_alloc | apply Kd.R_drewN | apply Kd.R_drew)); exact HO_4.out) (Kd.R_base ho0) hb); have n1_ := Aside0.mk (Kd.R_elder' (by (with_reducible repeat (first | apply Kd.R_alloc | apply Kd.R_drewN | apply Kd.R_drew)); exact HO_7.out) (Kd.R_base ho0) hb); have n2_ := Aside0.mk (Kd.R_elder' (by (with_reducible repeat (first | apply Kd.R_alloc | apply Kd.R_drewN | apply Kd.R_drew)); exact HO_341001.out) (Kd.R_base ho0) hb); have n3_ := Aside0.mk (Kd.R_lower (Kd.R_new' (Kd.R_new' (Kd.R_new' ho0 (Kd.R_lt (by (with_reducible repeat (first | apply Kd.R_alloc | apply Kd.R_drewN | apply Kd.R_drew)); exact HO_4.out))) (Kd.R_lt (by (with_reducible repeat (first | apply Kd.R_alloc | apply Kd.R_drewN | apply Kd.R_drew)); exact HO_7.out))) (Kd.R_lt (by (with_reducible repeat (first | apply Kd.R_alloc | apply Kd.R_drewN | apply Kd.R_drew)); exact HO_341001.out))) (below_size (by repeat (first | (with_reducible first | exact HB.out | apply below_alloc | apply pw_below_drewN | apply below_drew1 | refine below_set ?_ GE326.out | refine below_set ?_ GE340.out) | exact HB.out)))); have n4_ := Aside0.mk (blk_below (g := gb326) (o := .cells #[.int .i64 a0_0, .slice A0_1 l0_1.length c0_1] 24 (0, 0)) (by (with_reducible repeat (first | refine blk_drewN ?_ _ | refine blk_drew ?_ | refine blk_alloc ?_ _)); exact BK326.out) hb); have n5_ := Aside0.mk (blk_below (g := gb340) (o := .cells #[.int .i64 t336, .slice Ao24 t352.length co24] 28 (0, 0)) (by (with_reducible repeat (first | refine blk_drewN ?_ _ | refine blk_drew ?_ | refine blk_alloc ?_ _)); exact BK340.out) hb); have n6_ := Aside0.mk (below_step (by repeat (first | (with_reducible first | exact HB.out | apply below_alloc | apply pw_below_drewN | apply below_drew1 | refine below_set ?_ GE326.out | refine below_set ?_ GE340.out) | exact HB.out)) hb); clear HO_4; clear HO_7; clear HO_341001; clear BK326; clear BK340; clear HB; have HO_4 := n0_; have HO_7 := n1_; have HO_341001 := n2_; have HO360 := n3_; have BK326 := n4_; have BK340 := n5_; have HB := n6_; clear n0_ n1_ n2_ n3_ n4_ n5_ n6_; (try clear hb); (try clear hb2); (try clear hk); (try clear hi); (try clear ho0); obtain ⟨Ao67, co67, eo67⟩ := Kd.R_slice HO360.out; subst eo67) | ((with_reducible refine gate_callee (f := 12) rfl ?_); refine goesA_ (some 76) rfl rfl Tryd.func12 (by kernel_rfl) rfl #[.agg #[.int .i64 t357, .slice Ao67 t358.length co67]] rfl ?_; (with_reducible refine (impl_HexMoves.calls kj36 t357 _ _ t358 t361 t364 _ ?side1 ?side2 A60.out).mono ?_); (case side1 => repeat (first | exact (Kd.R_reads' HO360.out).2.2 | (with_reducible refine Kd.C_alloc ?_ _) | (with_reducible refine Kd.C_drewN ?_ _) | (with_reducible refine Kd.C_drew ?_))); (case side2 => exact (Kd.R_reads' HO360.out).2.1); rintro e w68 ⟨v362, rfl, ho0, hb⟩; refine ⟨_, rfl, ?_⟩; have n0_ := Aside0.mk (Kd.R_elder' (by (with_reducible repeat (first | apply Kd.R_alloc | apply Kd.R_drewN | apply Kd.R_drew)); exact HO_4.out) (Kd.R_base ho0) hb); have n1_ := Aside0.mk (Kd.R_elder' (by (with_reducible repeat (first | apply Kd.R_alloc | apply Kd.R_drewN | apply Kd.R_drew)); exact HO_7.out) (Kd.R_base ho0) hb); have n2_ := Aside0.mk (Kd.R_elder' (by (with_reducible repeat (first | apply Kd.R_alloc | apply Kd.R_drewN | apply Kd.R_drew)); exact HO_341001.out) (Kd.R_base ho0) hb); have n3_ := Aside0.mk (Kd.R_elder' (by (with_reducible repeat (first | apply Kd.R_alloc | apply Kd.R_drewN | apply Kd.R_drew)); exact HO360.out) (Kd.R_base ho0) hb); have n4_ := Aside0.mk (Kd.R_lower (Kd.R_new' (Kd.R_new' (Kd.R_new' (Kd.R_new' ho0 (Kd.R_lt (by (with_reducible repeat (first | apply Kd.R_alloc | apply Kd.R_drewN | apply Kd.R_drew)); exact HO_4.out))) (Kd.R_lt (by (with_reducible repeat (first | apply Kd.R_alloc | apply Kd.R_drewN | apply Kd.R_drew)); exact HO_7.out))) (Kd.R_lt (by (with_reducible repeat (first | apply Kd.R_alloc | apply Kd.R_drewN | apply Kd.R_drew)); exact HO_341001.out))) (Kd.R_lt (by (with_reducible repeat (first | apply Kd.R_alloc | apply Kd.R_drewN | apply Kd.R_drew)); exact HO360.out))) (below_size (by repeat (first | (with_reducible first | exact HB.out | apply below_alloc | apply pw_below_drewN | apply below_drew1 | refine below_set ?_ GE326.out | refine below_set ?_ GE340.out) | exact HB.out)))); have n5_ := Aside0.mk (blk_below (g := gb326) (o := .cells #[.int .i64 a0_0, .slice A0_1 l0_1.length c0_1] 24 (0, 0)) (by (with_reducible repeat (first | refine blk_drewN ?_ _ | refine blk_drew ?_ | refine blk_alloc ?_ _)); exact BK326.out) hb); have n6_ := Aside0.mk (blk_below (g := gb340) (o := .cells #[.int .i64 t336, .slice Ao24 t352.length co24] 28 (0, 0)) (by (with_reducible repeat (first | refine blk_drewN ?_ _ | refine blk_drew ?_ | refine blk_alloc ?_ _)); exact BK340.out) hb); have n7_ := Aside0.mk (below_step (by repeat (first | (with_reducible first | exact HB.out | apply below_alloc | apply pw_below_drewN | apply below_drew1 | refine below_set ?_ GE326.out | refine below_set ?_ GE340.out) | exact HB.out)) hb); clear HO_4; clear HO_7; clear HO_341001; clear HO360; clear BK326; clear BK340; clear HB; have HO_4 := n0_; have HO_7 := n1_; have HO_341001 := n2_; have HO360 := n3_; have HO363 := n4_; have BK326 := n5_; have BK340 := n6_; have HB := n7_; clear n0_ n1_ n2_ n3_ n4_ n5_ n6_ n7_; (try clear hb); (try clear hb2); (try clear hk); (try clear hi); (try clear ho0)))
           (try simp only [Act.put, List.setIfInBounds_toArray, List.set_cons_zero, List.set_cons_succ])
           go_cut [87] (fun v87 wc => ∃ (kq : Nat) (x87_60 : Bool), v87 = .bool x87_60 ∧ Aside0 (laws_FnExactHexMoves.j2 kq t355 t354 x87_60 = some true) ∧ Aside0 (kq ≤ kj36) ∧ Aside0 (Kd.R (Kd.int .i64) 2 wc w.heap.size (fun k_ => some k_ ≠ ((.slice Ao24 t352.length co24) : Value).ownBlock) (.slice Ao62 t341.length co62) t355) ∧ Aside0 (Kd.R (Kd.int .i64) 2 wc w.heap.size (fun k_ => some k_ ≠ ((.slice Ao62 t341.length co62) : Value).ownBlock) (.slice Ao24 t352.length co24) t352) ∧ Aside0 (wc.heap[gb326]? = some (.cells #[.int .i64 a0_0, (.slice A0_1 l0_1.length c0_1)] 24 (0, 0))) ∧ Aside0 (wc.heap[gb340]? = some (.cells #[.int .i64 t336, (.slice Ao24 t352.length co24)] 28 (0, 0))) ∧ Aside0 (Below w.heap.size w wc))
           case first =>
            have H := HC61.out
            clear HC61
            replace H := Option.bind_eq_some_iff.mp H
            obtain ⟨t365, A690, H⟩ := H
            replace H : (if t365 = true then (laws_FnExactHexMoves.j2 kj36 t355 t354 (t364 != t335)) else (laws_FnExactHexMoves.j2 kj36 t355 t354 true)) = some true := H
            have A69 := Aside0.mk A690
            clear A690
            by_cases c70 : t365 = true
            ·subst c70
             have H1 : (laws_FnExactHexMoves.j2 kj36 t355 t354 (t364 != t335)) = some true := by rw [if_pos rfl] at H; exact H
             clear H
             have H := H1
             clear H1
             have H' := Aside0.mk H
             clear H
             obtain ⟨Ao71, co71, eo71⟩ := Kd.R_slice HO363.out
             subst eo71
             obtain ⟨Ao72, co72, eo72⟩ := Kd.R_slice HO_4.out
             subst eo72
             go_wp2_with (first | ((with_reducible refine gate_callee (f := 13) rfl ?_); refine goesA_ (some 81) rfl rfl Tryd.func13 (by kernel_rfl) rfl #[.slice Ao71 t361.length co71, .slice Ao72 t332.length co72] rfl ?_; (with_reducible refine (laws_eqInt64S.calls kj36 _ _ t361 _ _ t332 true _ ?side1 ?side2 ?side3 ?side4 A69.out).mono ?_); (case side1 => repeat (first | exact (Kd.R_reads' HO363.out).2.2 | (with_reducible refine Kd.C_alloc ?_ _) | (with_reducible refine Kd.C_drewN ?_ _) | (with_reducible refine Kd.C_drew ?_))); (case side2 => exact (Kd.R_reads' HO363.out).2.1); (case side3 => repeat (first | exact (Kd.R_reads' HO_4.out).2.2 | (with_reducible refine Kd.C_alloc ?_ _) | (with_reducible refine Kd.C_drewN ?_ _) | (with_reducible refine Kd.C_drew ?_))); (case side4 => exact (Kd.R_reads' HO_4.out).2.1); rintro e w' ⟨rfl, ⟨nd, rfl⟩⟩; refine ⟨_, rfl, ?_⟩))
             go_meet
             case rel => exact ⟨_, ((t364 != t335)), (by first | rfl | (simp; done) | (simp [*]; done)), H', ⟨by have := HJ10.out; have := HJ36.out; first | omega | exact Nat.le_refl _⟩, ⟨by (try simp only [hl341001_36]); (with_reducible repeat (first | apply Kd.R_alloc | apply Kd.R_drewN | apply Kd.R_drew)); exact Kd.R_mono HO_7.out (fun _ hk => hk.1.1.2)⟩, ⟨by (try simp only [hl341001_36]); (with_reducible repeat (first | apply Kd.R_alloc | apply Kd.R_drewN | apply Kd.R_drew)); exact Kd.R_mono HO_341001.out (fun _ hk => hk.1.1.2)⟩, ⟨by (try simp only [hl341001_36]); (with_reducible repeat (first | refine blk_drewN ?_ _ | refine blk_drew ?_ | refine blk_alloc ?_ _)); exact BK326.out⟩, ⟨by (try simp only [hl341001_36]); (with_reducible repeat (first | refine blk_drewN ?_ _ | refine blk_drew ?_ | refine blk_alloc ?_ _)); exact BK340.out⟩, ⟨by repeat (first | (with_reducible first | exact HB.out | apply below_alloc | apply pw_below_drewN | apply below_drew1 | refine below_set ?_ GE326.out | refine below_set ?_ GE340.out) | exact HB.out)⟩⟩
            ·replace c70 := Bool.eq_false_iff.mpr c70
             subst c70
             have H1 : (laws_FnExactHexMoves.j2 kj36 t355 t354 true) = some true := by rw [if_neg (show ¬ (false = true) by decide)] at H; exact H
             clear H
             have H := H1
             clear H1
             have H' := Aside0.mk H
             clear H
             obtain ⟨Ao73, co73, eo73⟩ := Kd.R_slice HO363.out
             subst eo73
             obtain ⟨Ao74, co74, eo74⟩ := Kd.R_slice HO_4.out
             subst eo74
             go_wp2_with (first | ((with_reducible refine gate_callee (f := 13) rfl ?_); refine goesA_ (some 81) rfl rfl Tryd.func13 (by kernel_rfl) rfl #[.slice Ao73 t361.length co73, .slice Ao74 t332.length co74] rfl ?_; (with_reducible refine (laws_eqInt64S.calls kj36 _ _ t361 _ _ t332 false _ ?side1 ?side2 ?side3 ?side4 A69.out).mono ?_); (case side1 => repeat (first | exact (Kd.R_reads' HO363.out).2.2 | (with_reducible refine Kd.C_alloc ?_ _) | (with_reducible refine Kd.C_drewN ?_ _) | (with_reducible refine Kd.C_drew ?_))); (case side2 => exact (Kd.R_reads' HO363.out).2.1); (case side3 => repeat (first | exact (Kd.R_reads' HO_4.out).2.2 | (with_reducible refine Kd.C_alloc ?_ _) | (with_reducible refine Kd.C_drewN ?_ _) | (with_reducible refine Kd.C_drew ?_))); (case side4 => exact (Kd.R_reads' HO_4.out).2.1); rintro e w' ⟨rfl, ⟨nd, rfl⟩⟩; refine ⟨_, rfl, ?_⟩))
             go_meet
             case rel => exact ⟨_, (true), (by first | rfl | (simp; done) | (simp [*]; done)), H', ⟨by have := HJ10.out; have := HJ36.out; first | omega | exact Nat.le_refl _⟩, ⟨by (try simp only [hl341001_36]); (with_reducible repeat (first | apply Kd.R_alloc | apply Kd.R_drewN | apply Kd.R_drew)); exact Kd.R_mono HO_7.out (fun _ hk => hk.1.1.2)⟩, ⟨by (try simp only [hl341001_36]); (with_reducible repeat (first | apply Kd.R_alloc | apply Kd.R_drewN | apply Kd.R_drew)); exact Kd.R_mono HO_341001.out (fun _ hk => hk.1.1.2)⟩, ⟨by (try simp only [hl341001_36]); (with_reducible repeat (first | refine blk_drewN ?_ _ | refine blk_drew ?_ | refine blk_alloc ?_ _)); exact BK326.out⟩, ⟨by (try simp only [hl341001_36]); (with_reducible repeat (first | refine blk_drewN ?_ _ | refine blk_drew ?_ | refine blk_alloc ?_ _)); exact BK340.out⟩, ⟨by repeat (first | (with_reducible first | exact HB.out | apply below_alloc | apply pw_below_drewN | apply below_drew1 | refine below_set ?_ GE326.out | refine below_set ?_ GE340.out) | exact HB.out)⟩⟩
           case rest =>
            clear HC61
            (try clear c1); (try clear c2); (try clear p2); (try clear c3); (try clear c3b0); (try clear c4); (try clear c5); (try clear c6); (try clear c7); (try clear c8); (try clear c10); (try clear c11); (try clear c12); (try clear c13); (try clear c14); (try clear c15); (try clear c16); (try clear c22); (try clear c27); (try clear c32); (try clear c35); (try clear c42); (try clear c45); (try clear c45b0); (try clear c47); (try clear c52); (try clear c55); (try clear c55b0); (try clear c58); (try clear c58b0); (try clear c58b1); (try clear c64); (try clear c70); (try clear hcz13_0); (try clear hcz13_1); (try clear hcz15_0); (try clear hcz15_1); (try clear hcz19_0); (try clear hcz19_1); (try clear hcz23_0); (try clear hcz23_1); (try clear hcz43_0); (try clear hcz43_1); (try clear hcz5_0); (try clear hcz5_1); (try clear hcz65_0); (try clear hcz65_1); (try clear hfz13_0); (try clear hfz13_1); (try clear hfz15_0); (try clear hfz15_1); (try clear hfz19_0); (try clear hfz19_1); (try clear hfz23_0); (try clear hfz23_1); (try clear hfz43_0); (try clear hfz43_1); (try clear hfz5_0); (try clear hfz5_1); (try clear hfz65_0); (try clear hfz65_1); (try clear p2)
            obtain ⟨kq, x87_60, rfl, HA, HJ60, HO_7, HO_341001, BK326, BK340, HB⟩ := hcut
            have hl7_60 := (Kd.R_reads' HO_7.out).1
            rw [hl7_60] at HO_7
            (try simp only [hl7_60])
            (try simp only [hl7_60] at BK326)
            (try simp only [hl7_60] at BK340)
            (try simp only [hl7_60] at HO_341001)
            cases kq with
            | zero => exact absurd HA.out (by simp [laws_FnExactHexMoves.j2])
            | succ kj60 =>
             have H := HA.out
             clear HA
             simp only [laws_FnExactHexMoves.j2] at H
             by_cases c75 : x87_60 = true
             ·subst c75
              have H1 : (some false) = some true := by rw [if_pos rfl] at H; exact H
              clear H
              have H := H1
              clear H1
              exact absurd H (by simp)
             ·replace c75 := Bool.eq_false_iff.mpr c75
              subst c75
              have H1 : ((laws_heldInt64S.f kj60 t355 1).bind fun t366 => (if t366 < 0 then (some false) else (if t366 = t354 then (some true) else (some false)))) = some true := by rw [if_neg (show ¬ (false = true) by decide)] at H; exact H
              clear H
              have H := H1
              clear H1
              replace H := Option.bind_eq_some_iff.mp H
              obtain ⟨t366, A760, H⟩ := H
              replace H : (if t366 < 0 then (some false) else (if t366 = t354 then (some true) else (some false))) = some true := H
              have A76 := Aside0.mk A760
              clear A760
              by_cases c77 : t366 < 0
              ·rw [if_pos c77] at H
               have c77b0 : decide (t366 < 0) = true := decide_eq_true c77
               clear c77
               exact absurd H (by simp)
              ·rw [if_neg c77] at H
               have c77b0 : decide (t366 < 0) = false := decide_eq_false c77
               clear c77
               by_cases c78 : t366 = t354
               ·rw [if_pos c78] at H
                have c78b0 : (t366 == t354) = true := beq_iff_eq.mpr c78
                have c78b1 : (t366 != t354) = false := bne_eq_false_iff_eq.mpr c78
                clear c78
                clear H
                go_wp2_with (first | ((with_reducible refine gate_callee (f := 16) rfl ?_); refine goesA_ (some 90) rfl rfl Tryd.func16 (by kernel_rfl) rfl #[.slice Ao62 t355.length co62, .int .i64 1] rfl ?_; (with_reducible refine (laws_heldInt64S.calls kj60 _ _ t355 1 t366 _ ?side1 ?side2 A76.out).mono ?_); (case side1 => repeat (first | exact (Kd.R_reads' HO_7.out).2.2 | (with_reducible refine Kd.C_alloc ?_ _) | (with_reducible refine Kd.C_drewN ?_ _) | (with_reducible refine Kd.C_drew ?_))); (case side2 => exact (Kd.R_reads' HO_7.out).2.1); rintro e w' ⟨rfl, ⟨nd, rfl⟩⟩; refine ⟨_, rfl, ?_⟩))
                go_ret
                exact ⟨by first | rfl | (simp [errW_none, errW_some] <;> rfl) | (simp [*, errW_none, errW_some] <;> rfl), by repeat (first | (with_reducible first | exact HB.out | apply below_alloc | apply pw_below_drewN | apply below_drew1 | refine below_set ?_ GE326.out | refine below_set ?_ GE340.out) | exact HB.out)⟩
               ·rw [if_neg c78] at H
                have c78b0 : (t366 == t354) = false := beq_eq_false_iff_ne.mpr c78
                have c78b1 : (t366 != t354) = true := bne_iff_ne.mpr c78
                exact absurd H (by simp)
          ·rw [if_neg c58] at H
           have c58b0 : (t356 == t354) = false := beq_eq_false_iff_ne.mpr c58
           have c58b1 : (t356 != t354) = true := bne_iff_ne.mpr c58
           exact absurd H (by simp)
     ·replace c35 := Bool.eq_false_iff.mpr c35
      subst c35
      have H1 : (some false) = some true := by rw [if_neg (show ¬ (false = true) by decide)] at H; exact H
      clear H
      have H := H1
      clear H1
      exact absurd H (by simp)

-- The empty cells, on the reference's side. emptyL chosenTo rd_get wrap_next (for 32 47 37)
theorem chosen_mono (p : Int → Bool) {i : Nat} : ∀ n, i ≤ n → (chosenTo p i).length ≤ (chosenTo p n).length
  | 0, h => by have : i = 0 := by omega
               subst this; exact Nat.le_refl _
  | n + 1, h => by
    by_cases e : i = n + 1
    · subst e; exact Nat.le_refl _
    · have := chosen_mono p n (show i ≤ n by omega)
      have hs : chosenTo p (n + 1) = if p n then chosenTo p n ++ [(n : Int)] else chosenTo p n := rfl
      rw [hs]
      split
      · rw [List.length_append]; omega
      · exact this
theorem three_small {m : Nat} (h : m ≤ 9) : 3 ^ m ≤ 19683 := Nat.le_trans (Nat.pow_le_pow_right (by omega) h) (by simp)
theorem three_wrap {a : Nat} (h : a ≤ 19683) : wrap64 ((a : Int) * 3) = ((a * 3 : Nat) : Int) := by unfold wrap64; omega
theorem specEmpty_ev (p : Int) (l : List Int) (hl : l.length ≤ 64) (hm : (emptyL l).length ≤ 9) : Ev (fun k => spec_l06Empty.f k p l) (emptyL l, List.replicate (3 ^ (emptyL l).length) 0) := by
  unfold spec_l06Empty.f
  have key : ∀ (d i : Nat), i + d = l.length → Ev (fun k => spec_l06Empty.l0 k (chosenTo (fun c => rd l c == 0) i) ((3 ^ (chosenTo (fun c => rd l c == 0) i).length : Nat) : Int) i p l) (emptyL l, List.replicate (3 ^ (emptyL l).length) 0) := by
    intro d
    induction d with
    | zero =>
      intro i hi
      have e : i = l.length := by omega
      subst e
      have h3 := three_small hm
      refine Ev.step (f := fun _ => some (emptyL l, List.replicate (3 ^ (emptyL l).length) 0)) (fun k => ?_) (Ev.now _)
      simp only [spec_l06Empty.l0]
      have he : (chosenTo (fun c => rd l c == 0) l.length) = emptyL l := rfl
      rw [he]
      generalize 3 ^ (emptyL l).length = w at h3 ⊢
      rw [if_neg (by omega), if_pos (by omega), if_pos (by omega), Int.toNat_natCast]
    | succ d ih =>
      intro i hi
      have hlt : i < l.length := by omega
      have W1 := Aside0.mk (show wrap64 ((i : Int) + 1) = ((i + 1 : Nat) : Int) from wrap_next hlt (by omega))
      have h := ih (i + 1) (by omega)
      have hs : chosenTo (fun c => rd l c == 0) (i + 1) = if (rd l (i : Int) == 0) = true then chosenTo (fun c => rd l c == 0) i ++ [(i : Int)] else chosenTo (fun c => rd l c == 0) i := rfl
      have hml : (chosenTo (fun c => rd l c == 0) i).length ≤ 9 := Nat.le_trans (chosen_mono _ l.length (by omega)) hm
      rw [hs] at h
      refine Ev.step (fun k => ?_) h
      simp only [spec_l06Empty.l0]
      rw [if_pos (by omega), if_pos (by omega), W1.out]
      by_cases hz : rd l (i : Int) = 0
      · have hb : (rd l (i : Int) == 0) = true := beq_iff_eq.2 hz
        have HW := Aside0.mk (three_wrap (three_small hml))
        rw [if_pos hz, if_pos (by omega), HW.out]
        simp only [hb, if_true, List.length_append, List.length_singleton]
        rw [Nat.pow_succ]
      · have hb : (rd l (i : Int) == 0) = false := beq_eq_false_iff_ne.2 hz
        rw [if_neg hz]
        simp only [hb, Bool.false_eq_true, if_false]
  exact key l.length 0 (by omega)
-- The theorem of Hex: of two colours on a full board just one joins its sides (by the reduction of triangles).
/-- A cell (a, b) is in the small triangle whose top is (r, c). -/
def InT (a b r c : Nat) : Prop := (a = r ∧ b = c) ∨ (a = r + 1 ∧ b = c) ∨ (a = r + 1 ∧ b = c + 1)
/-- Two cells are in one small triangle of a triangle of side n. -/
def EdgeT (n a b a' b' : Nat) : Prop := ∃ r c, c ≤ r ∧ r + 1 < n ∧ InT a b r c ∧ InT a' b' r c
inductive ConT (n : Nat) (f : Nat → Nat → Bool) (k : Bool) (a b : Nat) : Nat → Nat → Prop
  | refl : b ≤ a → a < n → f a b = k → ConT n f k a b a b
  | step {a' b' a'' b'' : Nat} : ConT n f k a b a' b' → EdgeT n a' b' a'' b'' → f a'' b'' = k → ConT n f k a b a'' b''
theorem EdgeT.symm {n a b a' b' : Nat} : EdgeT n a b a' b' → EdgeT n a' b' a b := fun ⟨r, c, h1, h2, h3, h4⟩ => ⟨r, c, h1, h2, h4, h3⟩
theorem EdgeT.bound {n a b a' b' : Nat} : EdgeT n a b a' b' → b' ≤ a' ∧ a' < n := fun ⟨r, c, h1, h2, h3, h4⟩ => by unfold InT at h4; omega
theorem ConT.last {n : Nat} {f : Nat → Nat → Bool} {k : Bool} {a b a' b' : Nat} : ConT n f k a b a' b' → b' ≤ a' ∧ a' < n ∧ f a' b' = k
  | .refl h1 h2 h3 => ⟨h1, h2, h3⟩
  | .step _ he hf => ⟨he.bound.1, he.bound.2, hf⟩
theorem ConT.first {n : Nat} {f : Nat → Nat → Bool} {k : Bool} {a b a' b' : Nat} (h : ConT n f k a b a' b') : b ≤ a ∧ a < n ∧ f a b = k := by
  induction h with
  | refl h1 h2 h3 => exact ⟨h1, h2, h3⟩
  | step _ _ _ ih => exact ih
theorem ConT.trans {n : Nat} {f : Nat → Nat → Bool} {k : Bool} {a b a' b' a'' b'' : Nat} (h : ConT n f k a b a' b') (h' : ConT n f k a' b' a'' b'') : ConT n f k a b a'' b'' := by
  induction h' with
  | refl _ _ _ => exact h
  | step _ he hf ih => exact .step ih he hf
theorem ConT.symm {n : Nat} {f : Nat → Nat → Bool} {k : Bool} {a b a' b' : Nat} (h : ConT n f k a b a' b') : ConT n f k a' b' a b := by
  induction h with
  | refl h1 h2 h3 => exact .refl h1 h2 h3
  | step hc he hf ih =>
    have hl := hc.last
    exact ConT.trans (.step (.refl he.bound.1 he.bound.2 hf) he.symm hl.2.2) ih
/-- The majority of a small triangle. -/
def redT (f : Nat → Nat → Bool) (r c : Nat) : Bool := (f r c && f (r + 1) c) || (f r c && f (r + 1) (c + 1)) || (f (r + 1) c && f (r + 1) (c + 1))
def HasY (n : Nat) (f : Nat → Nat → Bool) (k : Bool) : Prop := ∃ a1 a2 b2 a3 b3, ConT n f k a1 0 a2 b2 ∧ a2 = b2 ∧ ConT n f k a1 0 a3 b3 ∧ a3 + 1 = n
theorem red_two {f : Nat → Nat → Bool} {k : Bool} {a b a' b' r c : Nat} (h1 : InT a b r c) (h2 : InT a' b' r c) (hne : ¬ (a = a' ∧ b = b')) (f1 : f a b = k) (f2 : f a' b' = k) : redT f r c = k := by
  unfold InT at h1 h2
  unfold redT
  rcases h1 with ⟨rfl, rfl⟩ | ⟨rfl, rfl⟩ | ⟨rfl, rfl⟩ <;> rcases h2 with ⟨rfl, rfl⟩ | ⟨rfl, rfl⟩ | ⟨rfl, rfl⟩ <;> first | (exact absurd ⟨rfl, rfl⟩ hne) | (rw [f1, f2]; cases k <;> simp)
theorem edge_share {n a b r c r' c' : Nat} (h1 : InT a b r c) (h2 : InT a b r' c') (g1 : c ≤ r) (g2 : c' ≤ r') (g3 : r < n) (g4 : r' < n) : (r = r' ∧ c = c') ∨ EdgeT n r c r' c' := by
  unfold InT at h1 h2
  by_cases he : r = r' ∧ c = c'
  · exact .inl he
  refine .inr ?_
  by_cases hr : r = r'
  · by_cases hc : c < c'
    · exact ⟨r - 1, c, by omega, by omega, by unfold InT; omega, by unfold InT; omega⟩
    · exact ⟨r - 1, c', by omega, by omega, by unfold InT; omega, by unfold InT; omega⟩
  · by_cases hlt : r < r'
    · exact ⟨r, c, by omega, by omega, by unfold InT; omega, by unfold InT; omega⟩
    · exact ⟨r', c', by omega, by omega, by unfold InT; omega, by unfold InT; omega⟩
theorem proj_con {n : Nat} {f : Nat → Nat → Bool} {k : Bool} {a b a' b' : Nat} (h : ConT (n + 1) f k a b a' b') : ∀ r c r' c', InT a b r c → c ≤ r → r < n → redT f r c = k → InT a' b' r' c' → c' ≤ r' → r' < n → redT f r' c' = k → ConT n (redT f) k r c r' c' := by
  induction h with
  | refl _ _ _ =>
    intro r c r' c' h1 g1 g2 e1 h2 g3 g4 e2
    rcases edge_share (n := n) h1 h2 g1 g3 g2 g4 with ⟨rfl, rfl⟩ | he
    · exact .refl g1 g2 e1
    · exact .step (.refl g1 g2 e1) he e2
  | @step a1 b1 a2 b2 hc he hf ih =>
    intro r c r' c' h1 g1 g2 e1 h2 g3 g4 e2
    by_cases hq : a1 = a2 ∧ b1 = b2
    · obtain ⟨rfl, rfl⟩ := hq
      exact ih r c r' c' h1 g1 g2 e1 h2 g3 g4 e2
    · obtain ⟨rs, cs, k1, k2, k3, k4⟩ := he
      have e3 := red_two k3 k4 hq hc.last.2.2 hf
      have := ih r c rs cs h1 g1 g2 e1 k3 k1 (by omega) e3
      rcases edge_share (n := n) k4 h2 k1 g3 (by omega) g4 with ⟨rfl, rfl⟩ | he2
      · exact this
      · exact .step this he2 e2
theorem proj_some {n : Nat} {f : Nat → Nat → Bool} {k : Bool} {a b a' b' : Nat} (h : ConT (n + 1) f k a b a' b') : ¬ (a = a' ∧ b = b') → ∃ r c, InT a b r c ∧ c ≤ r ∧ r < n ∧ redT f r c = k := by
  induction h with
  | refl => exact fun h => absurd ⟨rfl, rfl⟩ h
  | @step a1 b1 a2 b2 hc he hf ih =>
    intro hne
    by_cases hq : a = a1 ∧ b = b1
    · obtain ⟨rfl, rfl⟩ := hq
      obtain ⟨rs, cs, k1, k2, k3, k4⟩ := he
      exact ⟨rs, cs, k3, k1, by omega, red_two k3 k4 hne hc.last.2.2 hf⟩
    · exact ih hq
theorem proj_Y {n : Nat} (hn : 1 ≤ n) {f : Nat → Nat → Bool} {k : Bool} : HasY (n + 1) f k → HasY n (redT f) k := by
  rintro ⟨a1, a2, b2, a3, b3, h12, h2, h13, h3⟩
  have h23 := h12.symm.trans h13
  have t1 : ∃ r c, InT a1 0 r c ∧ c ≤ r ∧ r < n ∧ redT f r c = k := by
    by_cases h : a1 = a2 ∧ 0 = b2
    · exact proj_some h13 (by omega)
    · exact proj_some h12 h
  have t2 : ∃ r c, InT a2 b2 r c ∧ c ≤ r ∧ r < n ∧ redT f r c = k := by
    by_cases h : a2 = a1 ∧ b2 = 0
    · exact proj_some h23 (by omega)
    · exact proj_some h12.symm h
  have t3 : ∃ r c, InT a3 b3 r c ∧ c ≤ r ∧ r < n ∧ redT f r c = k := by
    by_cases h : a3 = a1 ∧ b3 = 0
    · exact proj_some h23.symm (by omega)
    · exact proj_some h13.symm h
  obtain ⟨r1, c1, i1, q1, l1, e1⟩ := t1
  obtain ⟨r2, c2, i2, q2, l2, e2⟩ := t2
  obtain ⟨r3, c3, i3, q3, l3, e3⟩ := t3
  have hc1 : c1 = 0 := by unfold InT at i1; omega
  subst hc1
  exact ⟨r1, r2, c2, r3, c3, proj_con h12 _ _ _ _ i1 q1 l1 e1 i2 q2 l2 e2, by unfold InT at i2; omega, proj_con h13 _ _ _ _ i1 q1 l1 e1 i3 q3 l3 e3, by unfold InT at i3; omega⟩
theorem red_cases {f : Nat → Nat → Bool} {k : Bool} {r c : Nat} (h : redT f r c = k) : (f r c = k ∧ f (r + 1) c = k) ∨ (f r c = k ∧ f (r + 1) (c + 1) = k) ∨ (f (r + 1) c = k ∧ f (r + 1) (c + 1) = k) := by
  unfold redT at h
  revert h
  generalize f r c = x
  generalize f (r + 1) c = y
  generalize f (r + 1) (c + 1) = z
  revert x y z k
  decide
theorem link_lt {n : Nat} {f : Nat → Nat → Bool} {k : Bool} {r c r' c' : Nat} (hs : (r' = r + 1 ∧ c' = c) ∨ (r' = r + 1 ∧ c' = c + 1) ∨ (r' = r ∧ c' = c + 1 ∧ 1 ≤ r)) (g1 : c ≤ r) (g2 : c' ≤ r') (g3 : r < n) (g4 : r' < n) (e1 : redT f r c = k) (e2 : redT f r' c' = k) : ∃ p q p' q', InT p q r c ∧ f p q = k ∧ InT p' q' r' c' ∧ f p' q' = k ∧ EdgeT (n + 1) p q p' q' := by
  have d1 := red_cases e1
  have d2 := red_cases e2
  rcases hs with ⟨rfl, rfl⟩ | ⟨rfl, rfl⟩ | ⟨rfl, rfl, h1⟩
  · by_cases hk : f (r + 1) c' = k
    · exact ⟨r + 1, c', r + 1, c', by unfold InT; omega, hk, by unfold InT; omega, hk, r, c', g1, by omega, by unfold InT; omega, by unfold InT; omega⟩
    · simp only [hk, and_false, false_and, or_false, false_or] at d1 d2
      exact ⟨r + 1, c' + 1, r + 1 + 1, c' + 1, by unfold InT; omega, d1.2, by unfold InT; omega, d2.2, r + 1, c' + 1, by omega, by omega, by unfold InT; omega, by unfold InT; omega⟩
  · by_cases hk : f (r + 1) (c + 1) = k
    · exact ⟨r + 1, c + 1, r + 1, c + 1, by unfold InT; omega, hk, by unfold InT; omega, hk, r, c, g1, by omega, by unfold InT; omega, by unfold InT; omega⟩
    · simp only [hk, and_false, false_and, or_false, false_or] at d1 d2
      exact ⟨r + 1, c, r + 1 + 1, c + 1, by unfold InT; omega, d1.2, by unfold InT; omega, d2.1, r + 1, c, by omega, by omega, by unfold InT; omega, by unfold InT; omega⟩
  · by_cases hk : f (r' + 1) (c + 1) = k
    · exact ⟨r' + 1, c + 1, r' + 1, c + 1, by unfold InT; omega, hk, by unfold InT; omega, hk, r', c, g1, by omega, by unfold InT; omega, by unfold InT; omega⟩
    · simp only [hk, and_false, false_and, or_false, false_or] at d1 d2
      exact ⟨r', c, r', c + 1, by unfold InT; omega, d1.1, by unfold InT; omega, d2.1, r' - 1, c, by omega, by omega, by unfold InT; omega, by unfold InT; omega⟩
theorem red_some {f : Nat → Nat → Bool} {k : Bool} {r c : Nat} (h : redT f r c = k) : ∃ p q, InT p q r c ∧ f p q = k := by
  rcases red_cases h with ⟨h, _⟩ | ⟨h, _⟩ | ⟨h, _⟩
  · exact ⟨r, c, by unfold InT; omega, h⟩
  · exact ⟨r, c, by unfold InT; omega, h⟩
  · exact ⟨r + 1, c, by unfold InT; omega, h⟩
theorem link {n : Nat} {f : Nat → Nat → Bool} {k : Bool} {r c r' c' : Nat} (he : EdgeT n r c r' c') (e1 : redT f r c = k) (e2 : redT f r' c' = k) : ∃ p q p' q', InT p q r c ∧ f p q = k ∧ InT p' q' r' c' ∧ f p' q' = k ∧ EdgeT (n + 1) p q p' q' := by
  have b2 := he.bound
  have b1 := he.symm.bound
  obtain ⟨s, t, k1, k2, k3, k4⟩ := he
  by_cases hq : r = r' ∧ c = c'
  · obtain ⟨rfl, rfl⟩ := hq
    obtain ⟨p, q, hi, hf⟩ := red_some e1
    exact ⟨p, q, p, q, hi, hf, hi, hf, r, c, by omega, by omega, hi, hi⟩
  · by_cases hlt : (r' = r + 1 ∧ c' = c) ∨ (r' = r + 1 ∧ c' = c + 1) ∨ (r' = r ∧ c' = c + 1 ∧ 1 ≤ r)
    · exact link_lt hlt b1.1 b2.1 b1.2 b2.2 e1 e2
    · obtain ⟨p, q, p', q', h1, h2, h3, h4, h5⟩ := link_lt (n := n) (r := r') (c := c') (r' := r) (c' := c) (by unfold InT at k3 k4; omega) b2.1 b1.1 b2.2 b1.2 e2 e1
      exact ⟨p', q', p, q, h3, h4, h1, h2, h5.symm⟩
theorem lift_con {n : Nat} {f : Nat → Nat → Bool} {k : Bool} {r c r' c' : Nat} (h : ConT n (redT f) k r c r' c') : ∀ a b a' b', InT a b r c → f a b = k → InT a' b' r' c' → f a' b' = k → ConT (n + 1) f k a b a' b' := by
  induction h with
  | refl g1 g2 e1 =>
    intro a b a' b' i1 f1 i2 f2
    exact .step (.refl (by unfold InT at i1; omega) (by unfold InT at i1; omega) f1) ⟨r, c, g1, by omega, i1, i2⟩ f2
  | @step r1 c1 r2 c2 hc he hf ih =>
    intro a b a' b' i1 f1 i2 f2
    obtain ⟨p, q, p', q', j1, j2, j3, j4, j5⟩ := link he hc.last.2.2 hf
    have hb := he.bound
    exact .step (.step (ih a b p q i1 f1 j1 j2) j5 j4) ⟨r2, c2, hb.1, by omega, j3, i2⟩ f2
theorem lift_Y {n : Nat} {f : Nat → Nat → Bool} {k : Bool} : HasY n (redT f) k → HasY (n + 1) f k := by
  rintro ⟨r1, r2, c2, r3, c3, h12, h2, h13, h3⟩
  subst h2
  have d1 := red_cases h12.first.2.2
  have d2 := red_cases h12.last.2.2
  have d3 := red_cases h13.last.2.2
  have t1 : ∃ a, InT a 0 r1 0 ∧ f a 0 = k := by
    by_cases h : f r1 0 = k
    · exact ⟨r1, by unfold InT; omega, h⟩
    · simp only [h, and_false, false_and, or_false, false_or] at d1
      exact ⟨r1 + 1, by unfold InT; omega, d1.1⟩
  have t2 : ∃ a, InT a a r2 r2 ∧ f a a = k := by
    by_cases h : f r2 r2 = k
    · exact ⟨r2, by unfold InT; omega, h⟩
    · simp only [h, and_false, false_and, or_false, false_or] at d2
      exact ⟨r2 + 1, by unfold InT; omega, d2.2⟩
  have t3 : ∃ b, InT (r3 + 1) b r3 c3 ∧ f (r3 + 1) b = k := by
    by_cases h : f (r3 + 1) c3 = k
    · exact ⟨c3, by unfold InT; omega, h⟩
    · simp only [h, and_false, false_and, or_false, false_or] at d3
      exact ⟨c3 + 1, by unfold InT; omega, d3.2⟩
  obtain ⟨a1, i1, f1⟩ := t1
  obtain ⟨a2, i2, f2⟩ := t2
  obtain ⟨b3, i3, f3⟩ := t3
  exact ⟨a1, a2, a2, r3 + 1, b3, lift_con h12 _ _ _ _ i1 f1 i2 f2, rfl, lift_con h13 _ _ _ _ i1 f1 i3 f3, by omega⟩
/-- Just one colour has a Y. -/
theorem one_Y : ∀ (n : Nat), 1 ≤ n → ∀ (f : Nat → Nat → Bool), ∃ k, HasY n f k ∧ ¬ HasY n f (!k)
  | 0, h, _ => by omega
  | 1, _, f => by
    refine ⟨f 0 0, ⟨0, 0, 0, 0, 0, .refl (Nat.le_refl _) (by omega) rfl, rfl, .refl (Nat.le_refl _) (by omega) rfl, rfl⟩, ?_⟩
    rintro ⟨a1, a2, b2, a3, b3, h12, _, _, _⟩
    have h := h12.first
    have : a1 = 0 := by omega
    subst this
    exact absurd h.2.2 (by cases f 0 0 <;> decide)
  | n + 2, _, f => by
    obtain ⟨k, h1, h2⟩ := one_Y (n + 1) (by omega) (redT f)
    exact ⟨k, lift_Y h1, fun h => h2 (proj_Y (by omega) h)⟩
-- The board of Hex in a triangle: just one player joins on a full board. ConT HasY one_Y EdgeT InT
def HAdj (r c r' c' : Nat) : Prop := (r' = r + 1 ∧ c' = c) ∨ (r = r' + 1 ∧ c' = c) ∨ (r' = r ∧ c' = c + 1) ∨ (r' = r ∧ c = c' + 1) ∨ (r = r' + 1 ∧ c' = c + 1) ∨ (r' = r + 1 ∧ c = c' + 1)
inductive HCon (n : Nat) (g : Nat → Nat → Bool) (k : Bool) (a b : Nat) : Nat → Nat → Prop
  | refl : a < n → b < n → g a b = k → HCon n g k a b a b
  | step {a' b' a'' b'' : Nat} : HCon n g k a b a' b' → HAdj a' b' a'' b'' → a'' < n → b'' < n → g a'' b'' = k → HCon n g k a b a'' b''
/-- The first player (true) joins row 0 and row n - 1, the second one (false) column 0 and column n - 1. -/
def HJoin (n : Nat) (g : Nat → Nat → Bool) : Bool → Prop
  | true => ∃ c r c', HCon n g true 0 c r c' ∧ r + 1 = n
  | false => ∃ r r' c', HCon n g false r 0 r' c' ∧ c' + 1 = n
theorem HCon.last {n : Nat} {g : Nat → Nat → Bool} {k : Bool} {a b a' b' : Nat} : HCon n g k a b a' b' → a' < n ∧ b' < n ∧ g a' b' = k
  | .refl h1 h2 h3 => ⟨h1, h2, h3⟩
  | .step _ _ h1 h2 h3 => ⟨h1, h2, h3⟩
def colY (n : Nat) (g : Nat → Nat → Bool) (R C : Nat) : Bool := if n ≤ C then false else if n ≤ R - C then true else g (R - C) C
theorem colY_in {n : Nat} {g : Nat → Nat → Bool} {a b : Nat} (ha : a < n) (hb : b < n) : colY n g (a + b) b = g a b := by
  unfold colY
  rw [if_neg (by omega), if_neg (by omega), Nat.add_sub_cancel]
theorem into_Y {n : Nat} {g : Nat → Nat → Bool} {k : Bool} {a b a' b' : Nat} (h : HCon n g k a b a' b') : ConT (2 * n - 1) (colY n g) k (a + b) b (a' + b') b' := by
  induction h with
  | refl h1 h2 h3 => exact .refl (by omega) (by omega) (by rw [colY_in h1 h2, h3])
  | @step a1 b1 a2 b2 hc he h1 h2 h3 ih =>
    have hl := hc.last
    refine .step ih ?_ (by rw [colY_in h1 h2, h3])
    unfold HAdj at he
    rcases he with ⟨rfl, rfl⟩ | ⟨rfl, rfl⟩ | ⟨rfl, rfl⟩ | ⟨rfl, rfl⟩ | ⟨rfl, rfl⟩ | ⟨rfl, rfl⟩
    · exact ⟨a1 + b2, b2, by omega, by omega, by unfold InT; omega, by unfold InT; omega⟩
    · exact ⟨a2 + b2, b2, by omega, by omega, by unfold InT; omega, by unfold InT; omega⟩
    · exact ⟨a2 + b1, b1, by omega, by omega, by unfold InT; omega, by unfold InT; omega⟩
    · exact ⟨a2 + b2, b2, by omega, by omega, by unfold InT; omega, by unfold InT; omega⟩
    · exact ⟨a2 + b1, b1, by omega, by omega, by unfold InT; omega, by unfold InT; omega⟩
    · exact ⟨a1 + b2, b2, by omega, by omega, by unfold InT; omega, by unfold InT; omega⟩
theorem go_down {N : Nat} {f : Nat → Nat → Bool} {k : Bool} {x y R C : Nat} (h : ConT N f k x y R C) : ∀ j, R + j < N → (∀ i, i ≤ j → f (R + i) C = k) → ConT N f k x y (R + j) C
  | 0, _, _ => h
  | j + 1, hj, hf => .step (go_down h j (by omega) (fun i hi => hf i (by omega))) ⟨R + j, C, by have := h.last; omega, by omega, by unfold InT; omega, by unfold InT; omega⟩ (hf (j + 1) (Nat.le_refl _))
theorem go_right {N : Nat} {f : Nat → Nat → Bool} {k : Bool} {x y R C : Nat} (h : ConT N f k x y R C) : ∀ j, C + j ≤ R → (∀ i, i ≤ j → f R (C + i) = k) → ConT N f k x y R (C + j)
  | 0, _, _ => h
  | j + 1, hj, hf => .step (go_right h j (by omega) (fun i hi => hf i (by omega))) ⟨R - 1, C + j, by omega, by have := h.last; omega, by unfold InT; omega, by unfold InT; omega⟩ (hf (j + 1) (Nat.le_refl _))
theorem go_left {N : Nat} {f : Nat → Nat → Bool} {k : Bool} {x y R C : Nat} (h : ConT N f k x y R C) : ∀ j, j ≤ C → (∀ i, i ≤ j → f R (C - i) = k) → ConT N f k x y R (C - j)
  | 0, _, _ => h
  | j + 1, hj, hf => .step (go_left h j (by omega) (fun i hi => hf i (by omega))) ⟨R - 1, C - (j + 1), by have := h.last; omega, by have := h.last; omega, by unfold InT; have := h.last; omega, by unfold InT; have := h.last; omega⟩ (hf (j + 1) (Nat.le_refl _))
theorem join_Y1 {n : Nat} (hn : 1 ≤ n) {g : Nat → Nat → Bool} (h : HJoin n g true) : HasY (2 * n - 1) (colY n g) true := by
  obtain ⟨c, r, c', h, hr⟩ := h
  have hy := into_Y h
  have hl := h.last
  have hb : ∀ R C, C < n → n ≤ R - C → colY n g R C = true := fun R C h1 h2 => by unfold colY; rw [if_neg (by omega), if_pos h2]
  have hc0 : colY n g (r + c') c' = true := by rw [colY_in hl.1 hl.2.1]; exact hl.2.2
  have e1 : ConT (2 * n - 1) (colY n g) true (0 + c) c (r + c') 0 := by
    have := go_left hy c' (Nat.le_refl _) (fun i hi => by
      by_cases h0 : i = 0
      · rw [h0, Nat.sub_zero]; exact hc0
      · exact hb _ _ (by omega) (by omega))
    rwa [Nat.sub_self] at this
  have e2 : ConT (2 * n - 1) (colY n g) true (0 + c) c (2 * n - 2) c' := by
    have := go_down hy (2 * n - 2 - (r + c')) (by omega) (fun i hi => by
      by_cases h0 : i = 0
      · rw [h0, Nat.add_zero]; exact hc0
      · exact hb _ _ (by omega) (by omega))
    rwa [show r + c' + (2 * n - 2 - (r + c')) = 2 * n - 2 by omega] at this
  exact ⟨r + c', 0 + c, c, 2 * n - 2, c', e1.symm, by omega, e1.symm.trans e2, by omega⟩
theorem join_Y2 {n : Nat} (hn : 1 ≤ n) {g : Nat → Nat → Bool} (h : HJoin n g false) : HasY (2 * n - 1) (colY n g) false := by
  obtain ⟨r, r', c', h, hc⟩ := h
  have hy := into_Y h
  have hl := h.last
  have hb : ∀ R C, n ≤ C → colY n g R C = false := fun R C h1 => by unfold colY; rw [if_pos h1]
  have hc0 : colY n g (r' + c') c' = false := by rw [colY_in hl.1 hl.2.1]; exact hl.2.2
  have e1 : ConT (2 * n - 1) (colY n g) false (r + 0) 0 (r' + c') (r' + c') := by
    have := go_right hy r' (by omega) (fun i hi => by
      by_cases h0 : i = 0
      · rw [h0, Nat.add_zero]; exact hc0
      · exact hb _ _ (by omega))
    rwa [Nat.add_comm c' r'] at this
  have e2 : ∃ q, ConT (2 * n - 1) (colY n g) false (r + 0) 0 (2 * n - 2) q := by
    by_cases hq : r' + 1 = n
    · exact ⟨c', by rwa [show r' + c' = 2 * n - 2 by omega] at hy⟩
    · have h1 : ConT (2 * n - 1) (colY n g) false (r + 0) 0 (r' + c' + 1) (c' + 1) := .step hy ⟨r' + c', c', by omega, by omega, by unfold InT; omega, by unfold InT; omega⟩ (hb _ _ (by omega))
      have := go_down h1 (2 * n - 2 - (r' + c' + 1)) (by omega) (fun i hi => hb _ _ (by omega))
      exact ⟨c' + 1, by rwa [show r' + c' + 1 + (2 * n - 2 - (r' + c' + 1)) = 2 * n - 2 by omega] at this⟩
  obtain ⟨q, e2⟩ := e2
  exact ⟨r + 0, r' + c', r' + c', 2 * n - 2, q, e1, rfl, e2, by omega⟩
theorem from_edge {n R C R' C' : Nat} (he : EdgeT (2 * n - 1) R C R' C') : (R' - C' = R - C ∧ C' = C) ∨ HAdj (R - C) C (R' - C') C' := by
  obtain ⟨s, t, h1, h2, h3, h4⟩ := he
  unfold InT at h3 h4
  unfold HAdj
  generalize hx : R - C = x
  generalize hy : R' - C' = y
  rcases h3 with h3 | h3 | h3 <;> rcases h4 with h4 | h4 | h4 <;> first | exact .inl ⟨by omega, by omega⟩ | exact .inr (.inl ⟨by omega, by omega⟩) | exact .inr (.inr (.inl ⟨by omega, by omega⟩)) | exact .inr (.inr (.inr (.inl ⟨by omega, by omega⟩))) | exact .inr (.inr (.inr (.inr (.inl ⟨by omega, by omega⟩)))) | exact .inr (.inr (.inr (.inr (.inr (.inl ⟨by omega, by omega⟩))))) | exact .inr (.inr (.inr (.inr (.inr (.inr (⟨by omega, by omega⟩))))))
theorem from_Y1 {n : Nat} {g : Nat → Nat → Bool} {c0 R C : Nat} (hc : c0 < n) (h : ConT (2 * n - 1) (colY n g) true c0 c0 R C) : (R - C < n ∧ C < n ∧ HCon n g true 0 c0 (R - C) C) ∨ HJoin n g true := by
  induction h with
  | refl h1 h2 h3 =>
    refine .inl ⟨by omega, hc, ?_⟩
    rw [Nat.sub_self]
    refine .refl (by omega) hc ?_
    have e := colY_in (g := g) (show 0 < n by omega) hc
    rw [Nat.zero_add] at e
    rw [← e]; exact h3
  | @step R1 C1 R2 C2 hcon he hf ih =>
    rcases ih with ⟨q1, q2, q3⟩ | ih
    · have hb := he.bound
      have h1 : C2 < n := by
        by_cases h : C2 < n
        · exact h
        · unfold colY at hf; rw [if_pos (by omega)] at hf; cases hf
      by_cases h2 : R2 - C2 < n
      · refine .inl ⟨h2, h1, ?_⟩
        have e := colY_in (g := g) h2 h1
        rw [show R2 - C2 + C2 = R2 by omega, hf] at e
        rcases from_edge he with ⟨e1, e2⟩ | ha
        · rw [e1, e2]; exact q3
        · exact .step q3 ha h2 h1 e.symm
      · refine .inr ⟨c0, R1 - C1, C1, q3, ?_⟩
        obtain ⟨s, t, k1, k2, k3, k4⟩ := he
        unfold InT at k3 k4
        omega
    · exact .inr ih
theorem from_Y2 {n : Nat} {g : Nat → Nat → Bool} {r0 R C : Nat} (hc : r0 < n) (h : ConT (2 * n - 1) (colY n g) false r0 0 R C) : (R - C < n ∧ C < n ∧ HCon n g false r0 0 (R - C) C) ∨ HJoin n g false := by
  induction h with
  | refl h1 h2 h3 =>
    refine .inl ⟨by omega, by omega, ?_⟩
    rw [Nat.sub_zero]
    refine .refl hc (by omega) ?_
    have e := colY_in (g := g) hc (show 0 < n by omega)
    rw [Nat.add_zero] at e
    rw [← e]; exact h3
  | @step R1 C1 R2 C2 hcon he hf ih =>
    rcases ih with ⟨q1, q2, q3⟩ | ih
    · have hb := he.bound
      by_cases h1 : C2 < n
      · have h2 : R2 - C2 < n := by
          by_cases h : R2 - C2 < n
          · exact h
          · unfold colY at hf; rw [if_neg (by omega), if_pos (by omega)] at hf; cases hf
        refine .inl ⟨h2, h1, ?_⟩
        have e := colY_in (g := g) h2 h1
        rw [show R2 - C2 + C2 = R2 by omega, hf] at e
        rcases from_edge he with ⟨e1, e2⟩ | ha
        · rw [e1, e2]; exact q3
        · exact .step q3 ha h2 h1 e.symm
      · refine .inr ⟨r0, R1 - C1, C1, q3, ?_⟩
        obtain ⟨s, t, k1, k2, k3, k4⟩ := he
        unfold InT at k3 k4
        omega
    · exact .inr ih
theorem Y_join {n : Nat} (hn : 1 ≤ n) {g : Nat → Nat → Bool} : ∀ k, HasY (2 * n - 1) (colY n g) k → HJoin n g k
  | true, ⟨a1, a2, b2, a3, b3, h12, h2, h13, h3⟩ => by
    subst h2
    have hl := h12.last
    have hlt : a2 < n := by
      by_cases h : a2 < n
      · exact h
      · have := hl.2.2; unfold colY at this; rw [if_pos (by omega)] at this; cases this
    rcases from_Y1 hlt (h12.symm.trans h13) with ⟨q1, q2, q3⟩ | h
    · exact ⟨a2, _, _, q3, by omega⟩
    · exact h
  | false, ⟨a1, a2, b2, a3, b3, h12, h2, h13, h3⟩ => by
    have hl := h12.first
    have hlt : a1 < n := by
      by_cases h : a1 < n
      · exact h
      · have := hl.2.2; unfold colY at this; rw [if_neg (by omega), if_pos (by omega)] at this; cases this
    rcases from_Y2 hlt h13 with ⟨q1, q2, q3⟩ | h
    · exact ⟨a1, _, _, q3, by have := h13.last; omega⟩
    · exact h
/-- On a full board just one player joins. -/
theorem one_joins {n : Nat} (hn : 1 ≤ n) (g : Nat → Nat → Bool) : ∃ k, HJoin n g k ∧ ¬ HJoin n g (!k) := by
  obtain ⟨k, h1, h2⟩ := one_Y (2 * n - 1) (by omega) (colY n g)
  refine ⟨k, Y_join hn k h1, fun h => h2 ?_⟩
  cases k with
  | true => exact join_Y2 hn h
  | false => exact join_Y1 hn h
-- How far a player's sides are, plain: what the program's rounds come to. costV_small farInit farStep farRound farLoop betterV costV openV lineV IsBest needBest needBest_is count_set getD_set_same getD_set_ne nearV farInit_len farStep_len farRound_len (for 79 70)
/-- A way from the first line to a cell, and the empty cells on it. -/
inductive Cst (s : Int) (l : List Int) (p : Int) : Nat → Int → Prop
  | start (x : Nat) : x < l.length → lineV s p (x : Int) = 0 → openV l p (x : Int) = true → Cst s l p x (costV l (x : Int))
  | step {x y : Nat} {c : Int} : Cst s l p x c → (y : Int) ∈ nearV s (x : Int) → y < l.length → openV l p (y : Int) = true → Cst s l p y (c + costV l (y : Int))
theorem cst_pos {s : Int} {l : List Int} {p : Int} {x : Nat} {c : Int} (h : Cst s l p x c) : 0 ≤ c ∧ x < l.length := by
  induction h with
  | start x h1 _ _ => exact ⟨(costV_small l _).1, h1⟩
  | @step x y c hc hn hy ho ih => exact ⟨by have := ih.1; have := (costV_small l (y : Int)).1; omega, hy⟩
def cntF (far : List (Option Int)) : Nat := (far.filter Option.isSome).length
def msrF : List (Option Int) → Nat
  | [] => 0
  | none :: r => 66 + msrF r
  | some c :: r => c.toNat + msrF r
theorem msr_set : ∀ (far : List (Option Int)) (i : Nat) (c : Int), i < far.length → (∀ m, far.getD i none = some m → 0 ≤ c ∧ c < m) → (far.getD i none = none → c ≤ 65) → msrF (far.set i (some c)) < msrF far
  | [], i, c, h, _, _ => by simp at h
  | a :: r, 0, c, _, h1, h2 => by
    cases a with
    | none =>
      have := h2 rfl
      simp only [List.set_cons_zero, msrF]
      omega
    | some m =>
      have := h1 m rfl
      simp only [List.set_cons_zero, msrF]
      omega
  | a :: r, i + 1, c, h, h1, h2 => by
    have e : (a :: r).getD (i + 1) none = r.getD i none := by simp [List.getD_eq_getElem?_getD]
    rw [e] at h1 h2
    have ih := msr_set r i c (by simpa using h) h1 h2
    cases a with
    | none => simp only [List.set_cons_succ, msrF]; omega
    | some m => simp only [List.set_cons_succ, msrF]; omega
/-- What is told of far cells is so, and the first line is told of. -/
def FarOk (s : Int) (l : List Int) (p : Int) (far : List (Option Int)) : Prop :=
  far.length = l.length ∧ (∀ (x : Nat) (c : Int), far.getD x none = some c → Cst s l p x c ∧ c ≤ (cntF far : Int)) ∧ ∀ x : Nat, x < l.length → lineV s p (x : Int) = 0 → openV l p (x : Int) = true → ∃ c, far.getD x none = some c ∧ c ≤ costV l (x : Int)
theorem cnt_pos {far : List (Option Int)} {x : Nat} {c : Int} (h : far.getD x none = some c) : 1 ≤ cntF far := by
  unfold cntF
  have hx : x < far.length := by
    by_cases hx : x < far.length
    · exact hx
    · rw [List.getD_eq_getElem?_getD, List.getElem?_eq_none (by omega)] at h; cases h
  rw [List.getD_eq_getElem?_getD, List.getElem?_eq_getElem hx] at h
  have hm : far[x] ∈ far.filter Option.isSome := List.mem_filter.2 ⟨List.getElem_mem hx, by rw [show far[x] = some c from h]; rfl⟩
  exact List.length_pos_of_mem hm
theorem far_start {s : Int} {l : List Int} {p : Int} : FarOk s l p (farInit s l p l.length) := by
  have hg : ∀ x : Nat, x < l.length → (farInit s l p l.length).getD x none = if ((lineV s p (x : Int) == 0) && openV l p (x : Int)) = true then some (costV l (x : Int)) else none := fun x hx => by
    rw [List.getD_eq_getElem?_getD, List.getElem?_eq_getElem (by rw [farInit_len]; exact hx)]
    simp [farInit, hx]
  refine ⟨farInit_len _ _ _ _, fun x c h => ?_, fun x hx h1 h2 => ⟨costV l (x : Int), ?_, Int.le_refl _⟩⟩
  · have hx : x < l.length := by
      by_cases hx : x < l.length
      · exact hx
      · rw [List.getD_eq_getElem?_getD, List.getElem?_eq_none (by rw [farInit_len]; omega)] at h; cases h
    have hc := cnt_pos h
    rw [hg x hx] at h
    by_cases hh : ((lineV s p (x : Int) == 0) && openV l p (x : Int)) = true
    · rw [if_pos hh] at h
      injection h with h
      subst h
      simp only [Bool.and_eq_true, beq_iff_eq] at hh
      have := costV_small l (x : Int)
      exact ⟨.start x hx hh.1 hh.2, by omega⟩
    · rw [if_neg hh] at h; cases h
  · rw [hg x hx, if_pos (by rw [h1, h2]; rfl)]
theorem far_put {s : Int} {l : List Int} {p : Int} (h64 : l.length ≤ 64) {far : List (Option Int)} (hf : FarOk s l p far) {y : Nat} {n : Int} (hy : y < l.length) (hn : n ≤ (cntF far : Int)) (hn0 : 0 ≤ n) (hc : Cst s l p y (n + costV l (y : Int))) (hb : match far.getD y none with | none => True | some m => n + costV l (y : Int) < m) :
    FarOk s l p (far.set y (some (n + costV l (y : Int)))) ∧ cntF far ≤ cntF (far.set y (some (n + costV l (y : Int)))) ∧ msrF (far.set y (some (n + costV l (y : Int)))) < msrF far := by
  obtain ⟨h1, h2, h3⟩ := hf
  have hcs := costV_small l (y : Int)
  have hyf : y < far.length := by omega
  have hcnt := count_set far y (n + costV l (y : Int)) hyf
  have hle : cntF far ≤ l.length := by rw [← h1]; exact List.length_filter_le _ _
  have hcge : cntF far ≤ cntF (far.set y (some (n + costV l (y : Int)))) := by
    unfold cntF
    rw [hcnt]
    split <;> omega
  have hnew : n + costV l (y : Int) ≤ (cntF (far.set y (some (n + costV l (y : Int)))) : Int) := by
    cases hg : far.getD y none with
    | none =>
      rw [hg] at hcnt
      unfold cntF at hn ⊢
      rw [hcnt, if_neg (by simp)]
      omega
    | some m =>
      rw [hg] at hb
      have := (h2 y m hg).2
      have hb : n + costV l (y : Int) < m := hb
      omega
  refine ⟨⟨by rw [List.length_set]; exact h1, fun x c h => ?_, fun x hx q1 q2 => ?_⟩, hcge, ?_⟩
  · by_cases e : y = x
    · subst e
      rw [getD_set_same _ _ _ _ hyf] at h
      injection h with h
      subst h
      exact ⟨hc, hnew⟩
    · rw [getD_set_ne _ _ _ _ _ e] at h
      obtain ⟨a, b⟩ := h2 x c h
      exact ⟨a, by omega⟩
  · obtain ⟨c, a, b⟩ := h3 x hx q1 q2
    by_cases e : y = x
    · subst e
      rw [a] at hb
      have hb : n + costV l (y : Int) < c := hb
      exact ⟨_, getD_set_same _ _ _ _ hyf, by omega⟩
    · exact ⟨c, by rw [getD_set_ne _ _ _ _ _ e]; exact a, b⟩
  · refine msr_set far y _ hyf (fun m hm => ?_) (fun _ => by omega)
    rw [hm] at hb
    exact ⟨by omega, hb⟩
theorem better_is {l : List Int} {p n : Int} {far : List (Option Int)} {y : Nat} (hn0 : 0 ≤ n) (hn : n ≤ 64) : betterV l p n far (y : Int) = true ↔ openV l p (y : Int) = true ∧ match far.getD y none with | none => True | some m => n + costV l (y : Int) < m := by
  have hcs := costV_small l (y : Int)
  have hw : wrap64 (n + costV l (y : Int)) = n + costV l (y : Int) := by unfold wrap64; omega
  unfold betterV
  rw [hw, Int.toNat_natCast, Bool.and_eq_true]
  cases far.getD y none with
  | none => simp
  | some m => simp
theorem farStep_ok {s : Int} {l : List Int} {p : Int} (h64 : l.length ≤ 64) {x : Nat} {n : Int} (hx : Cst s l p x n) : ∀ (r : List Int) (far : List (Option Int)) (ch : Bool), (∀ z ∈ r, z ∈ nearV s (x : Int) ∧ ∃ y : Nat, z = (y : Int) ∧ y < l.length) → FarOk s l p far → n ≤ (cntF far : Int) →
    FarOk s l p (farStep l p n r far ch).1 ∧ cntF far ≤ cntF (farStep l p n r far ch).1 ∧ msrF (farStep l p n r far ch).1 ≤ msrF far ∧ ((farStep l p n r far ch).2 = true → ch = true ∨ msrF (farStep l p n r far ch).1 < msrF far) ∧ ((farStep l p n r far ch).2 = false → ch = false ∧ (farStep l p n r far ch).1 = far ∧ ∀ z ∈ r, betterV l p n far z = false)
  | [], far, ch, _, hf, _ => ⟨hf, Nat.le_refl _, Nat.le_refl _, fun h => .inl h, fun h => ⟨h, rfl, fun z hz => absurd hz (by simp)⟩⟩
  | z :: r, far, ch, hr, hf, hn => by
    have hle : cntF far ≤ l.length := by rw [← hf.1]; exact List.length_filter_le _ _
    obtain ⟨hzn, y, rfl, hy⟩ := hr z (List.mem_cons_self ..)
    have hn0 := (cst_pos hx).1
    have hcs := costV_small l (y : Int)
    unfold farStep
    by_cases hb : betterV l p n far (y : Int) = true
    · rw [if_pos hb]
      obtain ⟨b1, b2⟩ := (better_is hn0 (by omega)).1 hb
      have hw : wrap64 (n + costV l (y : Int)) = n + costV l (y : Int) := by unfold wrap64; omega
      rw [hw, Int.toNat_natCast]
      obtain ⟨p1, p2, p3⟩ := far_put h64 hf hy hn hn0 (.step hx hzn hy b1) b2
      obtain ⟨q1, q2, q3, q4, q5⟩ := farStep_ok h64 hx r _ true (fun z hz => hr z (List.mem_cons_of_mem _ hz)) p1 (by omega)
      exact ⟨q1, by omega, by omega, fun _ => .inr (by omega), fun h => absurd (q5 h).1 (by simp)⟩
    · rw [if_neg hb]
      obtain ⟨q1, q2, q3, q4, q5⟩ := farStep_ok h64 hx r far ch (fun z hz => hr z (List.mem_cons_of_mem _ hz)) hf hn
      refine ⟨q1, q2, q3, q4, fun h => ?_⟩
      obtain ⟨a, b, c⟩ := q5 h
      refine ⟨a, b, fun z hz => ?_⟩
      rcases List.mem_cons.1 hz with rfl | hz
      · simpa using hb
      · exact c z hz
def NearIn (s : Int) (l : List Int) : Prop := ∀ x : Nat, x < l.length → ∀ z ∈ nearV s (x : Int), ∃ y : Nat, z = (y : Int) ∧ y < l.length
theorem farRound_ok {s : Int} {l : List Int} {p : Int} (h64 : l.length ≤ 64) (hnear : NearIn s l) : ∀ (d c : Nat) (far : List (Option Int)) (ch : Bool), c + d = l.length → FarOk s l p far →
    FarOk s l p (farRound s l p d c far ch).1 ∧ cntF far ≤ cntF (farRound s l p d c far ch).1 ∧ msrF (farRound s l p d c far ch).1 ≤ msrF far ∧ ((farRound s l p d c far ch).2 = true → ch = true ∨ msrF (farRound s l p d c far ch).1 < msrF far) ∧ ((farRound s l p d c far ch).2 = false → ch = false ∧ (farRound s l p d c far ch).1 = far ∧ ∀ x : Nat, c ≤ x → x < l.length → ∀ n, far.getD x none = some n → ∀ z ∈ nearV s (x : Int), betterV l p n far z = false)
  | 0, c, far, ch, hc, hf => ⟨hf, Nat.le_refl _, Nat.le_refl _, fun h => .inl h, fun h => ⟨h, rfl, fun x h1 h2 => by omega⟩⟩
  | d + 1, c, far, ch, hc, hf => by
    unfold farRound
    cases hg : far.getD c none with
    | none =>
      obtain ⟨q1, q2, q3, q4, q5⟩ := farRound_ok h64 hnear d (c + 1) far ch (by omega) hf
      refine ⟨q1, q2, q3, q4, fun h => ?_⟩
      obtain ⟨a, b, e⟩ := q5 h
      refine ⟨a, b, fun x h1 h2 n hn z hz => ?_⟩
      by_cases hx : x = c
      · subst hx; rw [hg] at hn; cases hn
      · exact e x (by omega) h2 n hn z hz
    | some n =>
      obtain ⟨hx, hn⟩ := hf.2.1 c n hg
      obtain ⟨p1, p2, p3, p4, p5⟩ := farStep_ok h64 hx (nearV s (c : Int)) far ch (fun z hz => ⟨hz, hnear c (by omega) z hz⟩) hf hn
      obtain ⟨q1, q2, q3, q4, q5⟩ := farRound_ok h64 hnear d (c + 1) (farStep l p n (nearV s (c : Int)) far ch).1 (farStep l p n (nearV s (c : Int)) far ch).2 (by omega) p1
      dsimp only
      refine ⟨q1, by omega, by omega, fun h => ?_, fun h => ?_⟩
      · rcases q4 h with h | h
        · rcases p4 h with h | h
          · exact .inl h
          · exact .inr (by omega)
        · exact .inr (by omega)
      · obtain ⟨a, b, e⟩ := q5 h
        obtain ⟨a2, b2, e2⟩ := p5 a
        refine ⟨a2, b.trans b2, fun x h1 h2 m hm z hz => ?_⟩
        by_cases hxc : x = c
        · subst hxc
          rw [hg] at hm
          injection hm with hm
          subst hm
          exact e2 z hz
        · have := e x (by omega) h2 m (by rw [b2]; exact hm) z hz
          rwa [b2] at this
/-- Nothing gets nearer any more. -/
def FarFix (s : Int) (l : List Int) (p : Int) (far : List (Option Int)) : Prop := ∀ x : Nat, x < l.length → ∀ n, far.getD x none = some n → ∀ z ∈ nearV s (x : Int), betterV l p n far z = false
theorem farLoop_end {s : Int} {l : List Int} {p : Int} (h64 : l.length ≤ 64) (hnear : NearIn s l) : ∀ (M : Nat) (far : List (Option Int)), msrF far ≤ M → FarOk s l p far → ∃ farE, FarOk s l p farE ∧ FarFix s l p farE ∧ Ev (fun k => farLoop s l p k true far) farE := by
  intro M
  induction M with
  | zero =>
    intro far hm hf
    obtain ⟨q1, q2, q3, q4, q5⟩ := farRound_ok h64 hnear l.length 0 far false (by omega) hf
    cases hch : (farRound s l p l.length 0 far false).2 with
    | true =>
      rcases q4 hch with h | h
      · cases h
      · omega
    | false =>
      obtain ⟨_, b, e⟩ := q5 hch
      refine ⟨far, hf, fun x hx => e x (by omega) hx, Ev.step (f := fun k => farLoop s l p k false far) (fun k => ?_) (Ev.step (f := fun _ => some far) (fun k => ?_) (Ev.now _))⟩
      · rw [farLoop, if_pos rfl, hch, b]
      · rw [farLoop, if_neg (by simp)]
  | succ M ih =>
    intro far hm hf
    obtain ⟨q1, q2, q3, q4, q5⟩ := farRound_ok h64 hnear l.length 0 far false (by omega) hf
    cases hch : (farRound s l p l.length 0 far false).2 with
    | true =>
      rcases q4 hch with h | h
      · cases h
      · obtain ⟨farE, e1, e2, e3⟩ := ih _ (by omega) q1
        refine ⟨farE, e1, e2, Ev.step (fun k => ?_) e3⟩
        rw [farLoop, if_pos rfl, hch]
    | false =>
      obtain ⟨_, b, e⟩ := q5 hch
      refine ⟨far, hf, fun x hx => e x (by omega) hx, Ev.step (f := fun k => farLoop s l p k false far) (fun k => ?_) (Ev.step (f := fun _ => some far) (fun k => ?_) (Ev.now _))⟩
      · rw [farLoop, if_pos rfl, hch, b]
      · rw [farLoop, if_neg (by simp)]
theorem far_all {s : Int} {l : List Int} {p : Int} (h64 : l.length ≤ 64) {far : List (Option Int)} (hf : FarOk s l p far) (hx : FarFix s l p far) {x : Nat} {c : Int} (h : Cst s l p x c) : ∃ c', far.getD x none = some c' ∧ c' ≤ c := by
  have hle : cntF far ≤ l.length := by rw [← hf.1]; exact List.length_filter_le _ _
  induction h with
  | start x h1 h2 h3 => exact hf.2.2 x h1 h2 h3
  | @step x y c hc hn hy ho ih =>
    obtain ⟨c', e, hc'⟩ := ih
    have hb := hx x (cst_pos hc).2 c' e (y : Int) hn
    obtain ⟨hcst, hcn⟩ := hf.2.1 x c' e
    have hc0 := (cst_pos hcst).1
    cases hg : far.getD y none with
    | none =>
      have := (better_is (l := l) (p := p) (far := far) (y := y) hc0 (by omega)).2 ⟨ho, by rw [hg]; trivial⟩
      rw [this] at hb; cases hb
    | some m =>
      refine ⟨m, rfl, ?_⟩
      by_cases hlt : c' + costV l (y : Int) < m
      · have := (better_is (l := l) (p := p) (far := far) (y := y) hc0 (by omega)).2 ⟨ho, by rw [hg]; exact hlt⟩
        rw [this] at hb; cases hb
      · omega
/-- The least number of empty cells that a player has to get, -1 for none. -/
def LeastC (s : Int) (l : List Int) (p v : Int) : Prop :=
  (v = -1 ∧ ∀ (x : Nat) (c : Int), Cst s l p x c → lineV s p (x : Int) ≠ s - 1) ∨ (0 ≤ v ∧ (∃ x : Nat, Cst s l p x v ∧ lineV s p (x : Int) = s - 1) ∧ ∀ (x : Nat) (c : Int), Cst s l p x c → lineV s p (x : Int) = s - 1 → v ≤ c)
theorem LeastC.unique {s : Int} {l : List Int} {p v v' : Int} (h : LeastC s l p v) (h' : LeastC s l p v') : v = v' := by
  rcases h with ⟨rfl, h⟩ | ⟨h0, ⟨x, hx, hl⟩, hm⟩
  · rcases h' with ⟨rfl, _⟩ | ⟨_, ⟨x', hx', hl'⟩, _⟩
    · rfl
    · exact absurd hl' (h x' _ hx')
  · rcases h' with ⟨rfl, h'⟩ | ⟨h0', ⟨x', hx', hl'⟩, hm'⟩
    · exact absurd hl (h' x _ hx)
    · have := hm x' _ hx' hl'
      have := hm' x _ hx hl
      omega
theorem best_least {s : Int} {l : List Int} {p : Int} (h64 : l.length ≤ 64) {far : List (Option Int)} (hf : FarOk s l p far) (hx : FarFix s l p far) : LeastC s l p (needBest s p far 0 (-1)) := by
  have hpos : ∀ o ∈ far, ∀ c, o = some c → 0 ≤ c := fun o ho c hc => by
    obtain ⟨i, hi, rfl⟩ := List.mem_iff_getElem.1 ho
    have := hf.2.1 i c (by rw [List.getD_eq_getElem?_getD, List.getElem?_eq_getElem hi]; exact hc)
    exact (cst_pos this.1).1
  have h0 : IsBest s p far.length far (fun y => decide (y < ((0 : Nat) : Int))) (-1) := .inl ⟨rfl, fun x c h1 _ hg _ => by simp at hg; omega⟩
  have hb := needBest_is s p far hpos far 0 (-1) rfl (Nat.zero_le _) h0
  rcases hb with ⟨e, h⟩ | ⟨hv, ⟨x, h1, h2, _, h3, h4⟩, hm⟩
  · refine .inl ⟨e, fun x c hc hl => ?_⟩
    obtain ⟨c', hg, _⟩ := far_all h64 hf hx hc
    exact h (x : Int) c' (by omega) (by have := (cst_pos hc).2; have := hf.1; omega) rfl (by rw [Int.toNat_natCast]; exact hg) hl
  · refine .inr ⟨hv, ⟨x.toNat, (hf.2.1 _ _ h3).1, by rw [Int.toNat_of_nonneg h1]; exact h4⟩, fun y c hc hl => ?_⟩
    obtain ⟨c', hg, hle⟩ := far_all h64 hf hx hc
    have := hm (y : Int) c' (by omega) (by have := (cst_pos hc).2; have := hf.1; omega) rfl (by rw [Int.toNat_natCast]; exact hg) hl
    omega

end Go.Proofs.YtbmiojnkfgcfoaaDoor.F
