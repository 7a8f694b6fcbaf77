
import Derived.Test.YtbmiojnkfgcfoaaDoorKFnExactHexMoves6
namespace Go.Proofs.YtbmiojnkfgcfoaaDoor.Pure
open Go.RowKit Go.Proofs.YtbmiojnkfgcfoaaDoor.F Go.Proofs.YtbmiojnkfgcfoaaDoorW.PrintWords Go.Proofs.YtbmiojnkfgcfoaaDoorW.PrintLast Go.Proofs.YtbmiojnkfgcfoaaDoorW.PrintMore
theorem specMoves_l0 {n : Nat} (J : List Int → Int) (hJ : ∀ l, isHexV (n : Int) l = true → IsJ n l (J l) ∧ Ev (fun k => spec_l06Joiner.f k n l) (J l)) {l : List Int} (hv : isHexV (n : Int) l = true) (hm : moverV l ≠ 0) (h9 : (emptyL l).length ≤ 9) (h64 : l.length ≤ 64) {mv : Int} (hmv : moverV l = mv) {E : List Int} (hE : emptyL l = E) :
    ∀ (d i : Nat) (kn out : List Int), i + d = E.length → KnH n J l kn → out = (E.take i).filter (fun x => Wj J (l.set x.toNat mv) == mv) → Ev (fun k => spec_HexMoves.l0 k mv E kn out ((3 ^ i : Nat) : Int) i n l) (E.filter (fun x => Wj J (l.set x.toNat mv) == mv), 0) := by
  have hmr : mv = 1 ∨ mv = 2 := by rcases mover_cases hm with ⟨h, _⟩ | ⟨h, _⟩ <;> omega
  obtain ⟨hpw, hb0⟩ := chosen_pair (fun c => rd l c == 0) l.length
  have hz : ∀ e ∈ emptyL l, rd l e = 0 := fun e he => beq_iff_eq.1 (hb0 e he).2.2
  have hEp : (emptyL l).Pairwise (· < ·) := hpw
  intro d
  induction d with
  | zero =>
    intro i kn out hi hkn ho
    have e : i = E.length := by omega
    subst e
    rw [List.take_length] at ho
    subst ho
    refine Ev.step (f := fun _ => some (E.filter (fun x => Wj J (l.set x.toNat mv) == mv), 0)) (fun k => ?_) (Ev.now _)
    simp only [spec_HexMoves.l0]
    rw [if_neg (by omega)]
  | succ d ih =>
    intro i kn out hi hkn ho
    have hil : i < E.length := by omega
    have hmem : E[i] ∈ emptyL l := by rw [hE]; exact List.getElem_mem hil
    have hei := hb0 E[i] hmem
    have hrE : rd E (i : Int) = E[i] := rd_get E i hil
    have hpow : 3 ^ i ≤ 19683 := three_small (by rw [hE] at h9; omega)
    have W3 := Aside0.mk (three_wrap hpow)
    have W1 := Aside0.mk (show wrap64 ((i : Int) + 1) = ((i + 1 : Nat) : Int) from wrap_next hil (by rw [hE] at h9; omega))
    have hp3 : ((3 ^ i * 3 : Nat) : Int) = ((3 ^ (i + 1) : Nat) : Int) := by rw [Nat.pow_succ]
    obtain ⟨c1, c2, c3⟩ := board_child hv hm hmem
    rw [hmv] at c1 c2 c3
    have hnum : numOf (l.set E[i].toNat mv) (emptyL l) = 0 + mv.toNat * 3 ^ i := by
      have := numOf_set (b := l) (v := mv) E i hil (by rw [← hE]; exact hEp) (by rw [← hE]; exact fun e he => ⟨(hb0 e he).1, (hb0 e he).2.1⟩) (hz _ hmem)
      rw [hE, this, numOf_start l E (by rw [← hE]; exact hz)]
    have hn2 : 0 + mv.toNat * 3 ^ i < 19684 := by
      have := num_lt (l0 := l) c1
      have h3 := three_small h9
      rw [hnum] at this
      omega
    obtain ⟨kn1, k1, k2⟩ := specHexWin_ev (n := n) J hJ own_hexw (l0 := l) h9 h64 _ (l.set E[i].toNat mv) kn rfl c1 (by rw [c2]; rcases hmr with h | h <;> rw [h] <;> decide) (in_child (l0 := l) ⟨rfl, fun _ _ _ => rfl⟩ hmem) hkn
    rw [hnum, c2, hE] at k2
    have WN := Aside0.mk (show wrap64 (mv * ((3 ^ i : Nat) : Int)) = ((0 + mv.toNat * 3 ^ i : Nat) : Int) from by
      have e1 : mv * ((3 ^ i : Nat) : Int) = ((mv.toNat * 3 ^ i : Nat) : Int) := by
        rw [Int.natCast_mul]
        congr 1
        omega
      rw [e1]
      generalize mv.toNat * 3 ^ i = z at hn2 ⊢
      rw [wrap_smallS (z := (z : Int)) (by omega) (by omega)]
      omega)
    have WM := Aside0.mk (show wrap64 (3 - mv) = 3 - mv from wrap_smallS (by omega) (by omega))
    have hol : out.length ≤ 9 := by
      rw [ho]
      have := List.length_filter_le (fun x => Wj J (l.set x.toNat mv) == mv) (E.take i)
      rw [List.length_take] at this
      rw [hE] at h9
      omega
    have hnext := ih (i + 1) kn1 (if Wj J (l.set E[i].toNat mv) = mv then out ++ [E[i]] else out) (by omega) k1 (by
      rw [List.take_succ_eq_append_getElem hil, List.filter_append, ← ho]
      by_cases hw : Wj J (l.set E[i].toNat mv) = mv
      · rw [if_pos hw, List.filter_cons, if_pos (beq_iff_eq.2 hw), List.filter_nil]
      · rw [if_neg hw, List.filter_cons, if_neg (fun h => hw (beq_iff_eq.1 h)), List.filter_nil, List.append_nil])
    refine Ev.step (f := fun k => (spec_l06Winner.f k n (l.set E[i].toNat mv) E kn ((0 + mv.toNat * 3 ^ i : Nat) : Int) (3 - mv)).bind fun bt => if bt.1 = mv then (if out.length < 17592186044416 then spec_HexMoves.l0 k mv E bt.2 (out ++ [E[i]]) ((3 ^ (i + 1) : Nat) : Int) ((i + 1 : Nat) : Int) n l else none) else spec_HexMoves.l0 k mv E bt.2 out ((3 ^ (i + 1) : Nat) : Int) ((i + 1 : Nat) : Int) n l) (fun k => ?_) (Ev.bind k2 ?_)
    · simp only [spec_HexMoves.l0]
      rw [if_pos (by omega), own_hexw l h64, Option.bind_some, if_pos (by omega), hrE, if_pos hei.1, if_pos hei.2.1, WN.out, WM.out, W3.out, W1.out, hp3]
    · by_cases hw : Wj J (l.set E[i].toNat mv) = mv
      · rw [if_pos hw] at hnext
        exact Ev.congr (fun k => by rw [if_pos hw, if_pos (by omega)]) hnext
      · rw [if_neg hw] at hnext
        exact Ev.congr (fun k => by rw [if_neg hw]) hnext
theorem hexSift_ev {n : Nat} (J : List Int → Int) (hJ : ∀ l, isHexV (n : Int) l = true → IsJ n l (J l) ∧ Ev (fun k => impl_Hex_joiner.f k n l) (J l)) {l : List Int} (hv : isHexV (n : Int) l = true) (hm : moverV l ≠ 0) : ∀ r : List Int, (∀ x ∈ r, x ∈ emptyL l) → Ev (fun k => hexSift k n l r) (r.filter fun x => Wj J (l.set x.toNat (moverV l)) == moverV l) := by
  intro r
  induction r with
  | nil => exact fun _ => Ev.now _
  | cons x r ih =>
    intro hr
    have hx := hr x (List.mem_cons_self ..)
    obtain ⟨a, b, c⟩ := board_child hv hm hx
    have hlen : (emptyL (l.set x.toNat (moverV l))).length = (emptyL l).length - 1 := by omega
    have h1 := hexWinF_ev J hJ ((emptyL l).length - 1) _ a (by rw [b]; rcases mover_cases hm with ⟨h, _⟩ | ⟨h, _⟩ <;> rw [h] <;> decide) hlen
    have e : winJ J ((emptyL l).length - 1) (l.set x.toNat (moverV l)) = Wj J (l.set x.toNat (moverV l)) := by unfold Wj; rw [hlen]
    rw [e] at h1
    refine Ev.bind h1 (Ev.bind (ih (fun y hy => hr y (List.mem_cons_of_mem _ hy))) ?_)
    refine Ev.congr (f := fun _ => some ((x :: r).filter fun x => Wj J (l.set x.toNat (moverV l)) == moverV l)) (fun k => ?_) (Ev.now _)
    rw [List.filter_cons]
    by_cases hw : Wj J (l.set x.toNat (moverV l)) = moverV l
    · rw [if_pos hw, if_pos (beq_iff_eq.2 hw)]
    · rw [if_neg hw, if_neg (fun h => hw (beq_iff_eq.1 h))]
theorem hexMoves_both (p : Int) (l : List Int) (hl : l.length ≤ 1048576) : ∃ r : List Int × Int, r.1.length ≤ 1000 ∧ Ev (fun k => spec_HexMoves.f k p l) r ∧ Ev (fun k => impl_HexMoves.f k p l) r := by
  have ec := specHexCode_ev p l hl
  have ic := implHexCode_some p l hl
  by_cases hc : codeHexV p l = 0
  · have hok : hexOk p l := by
      unfold codeHexV at hc
      unfold hexOk
      split at hc
      · rename_i h1
        split at hc
        · omega
        · rename_i h2
          split at hc
          · rename_i h3
            exact ⟨h1, h2, h3⟩
          · omega
      · omega
    obtain ⟨hv, hm, h9⟩ := hok
    obtain ⟨n, rfl, h1, h8, hln⟩ := hex_natJ hv
    have h64 := hex_small hv
    obtain ⟨J, hJ⟩ := joiner_fun
    have ee := specEmpty_ev (n : Int) l h64 h9
    have hk : KnH n (fun b => J n b) l (List.replicate (3 ^ (emptyL l).length) 0) := ⟨List.length_replicate .., fun b _ _ _ h => by rw [rd_rep0] at h; omega⟩
    have hs := specMoves_l0 (n := n) (fun b => J n b) (fun b hb => ⟨(hJ n b hb).1, (hJ n b hb).2.2⟩) hv hm h9 h64 rfl rfl (emptyL l).length 0 _ [] (by omega) hk rfl
    have hi := hexWinF_ev (n := n) (fun b => J n b) (fun b hb => ⟨(hJ n b hb).1, (hJ n b hb).2.1⟩) (emptyL l).length l hv hm rfl
    have hi2 := hexSift_ev (n := n) (fun b => J n b) (fun b hb => ⟨(hJ n b hb).1, (hJ n b hb).2.1⟩) hv hm (emptyL l) (fun x hx => hx)
    refine ⟨((emptyL l).filter fun x => Wj (fun b => J n b) (l.set x.toNat (moverV l)) == moverV l, 0), ?_, ?_, ?_⟩
    · have := List.length_filter_le (fun x => Wj (fun b => J n b) (l.set x.toNat (moverV l)) == moverV l) (emptyL l)
      show (List.filter _ _).length ≤ 1000
      omega
    · unfold spec_HexMoves.f
      rw [hc, if_pos rfl] at ec
      exact Ev.bind ec (Ev.congr (fun k => by rw [if_pos rfl]) (Ev.bind ee hs))
    · refine Ev.congr (f := fun k => (hexWinF k n (emptyL l).length l).bind fun _ => (hexSift k n l (emptyL l)).bind fun t => some (t, 0)) (fun k => ?_) (Ev.bind hi (Ev.bind hi2 (Ev.now _)))
      unfold impl_HexMoves.f
      rw [ic, hc, Option.bind_some, if_pos rfl, if_pos ⟨hv, hm, h9⟩]
  · refine ⟨([], codeHexV p l), by simp, ?_, ?_⟩
    · unfold spec_HexMoves.f
      rw [if_neg hc] at ec
      exact Ev.bind ec (Ev.congr (f := fun _ => some ([], codeHexV p l)) (fun k => by rw [if_neg hc]) (Ev.now _))
    · refine Ev.congr (f := fun _ => some ([], codeHexV p l)) (fun k => ?_) (Ev.now _)
      unfold impl_HexMoves.f
      rw [ic, Option.bind_some, if_neg hc]
/- For every board, and whatever is none, the program's HexMoves answers what the reference's answers, in memory of its own, and leaves its argument as it was. Under no condition. -/
theorem FnExactHexMoves : laws_FnExactHexMoves.Pure := by
  intro p l hp hl
  refine Ev.rounds (?_ : Ev (fun k => laws_FnExactHexMoves.f k p l) true)
  unfold laws_FnExactHexMoves.f
  obtain ⟨v, hv, h⟩ := szHex_ev p l hl.1
  rw [hv]
  rcases h with rfl | ⟨h0, h1⟩
  · exact Ev.now _
  refine Ev.congr (fun k => by rw [Option.bind_some, if_neg (by omega)]) ?_
  obtain ⟨⟨x, c⟩, hx, es, ei⟩ := hexMoves_both p l h1
  have hx : x.length ≤ 1000 := hx
  have hT := toHex_ev p l h1
  have hq := eqInt64S_self x (by omega)
  have hc : (c != c) = false := by simp
  have hHx := held_ev 1 (by omega) x.length (by omega)
  have hMx := mark_ev 1 (by omega) x (by omega)
  have hMH : Ev (fun k => laws_markHex.f k p l 1) (1 + l.length, countUp 1 l.length) := by
    unfold laws_markHex.f
    exact Ev.bind (mark_ev 1 (by omega) l (by omega)) (Ev.now _)
  refine Ev.bind hT (Ev.bind es (Ev.bind hT (Ev.bind ei (Ev.bind hq (Ev.congr (f := fun k => laws_FnExactHexMoves.j0 k x c x c false p l p l) (fun k => by rw [if_pos rfl]; simp only [hc]) ?_)))))
  have hj2 : Ev (fun k => laws_FnExactHexMoves.j2 k (countUp 1 x.length) (1 + x.length) false) true := by
    refine Ev.step (f := fun k => (laws_heldInt64S.f k (countUp 1 x.length) 1).bind fun t => (if t < 0 then (some false) else (if t = 1 + x.length then (some true) else (some false)))) (fun k => ?_) ?_
    · simp only [laws_FnExactHexMoves.j2]; rw [if_neg (by simp)]
    · refine Ev.bind hHx ?_
      exact Ev.congr (f := fun _ => some true) (fun k => by rw [if_neg (by omega), if_pos rfl]) (Ev.now _)
  have hj1 : Ev (fun k => laws_FnExactHexMoves.j1 k x c x false p l) true := by
    refine Ev.step (f := fun k => (laws_markInt64S.f k x 1).bind fun bt301 => ((laws_heldInt64S.f k bt301.2 1).bind fun t303 => (if t303 < 0 then (some false) else (if t303 = bt301.1 then ((laws_toHex.f k p l).bind fun bt304 => ((impl_HexMoves.f k bt304.1 bt304.2).bind fun bt308 => ((laws_eqInt64S.f k bt308.1 x).bind fun t312 => (if t312 = true then (laws_FnExactHexMoves.j2 k bt301.2 bt301.1 (bt308.2 != c)) else (laws_FnExactHexMoves.j2 k bt301.2 bt301.1 true))))) else (some false))))) (fun k => ?_) ?_
    · simp only [laws_FnExactHexMoves.j1]; rw [if_neg (by simp)]
    · refine Ev.bind hMx (Ev.bind hHx (Ev.congr (fun k => by rw [if_neg (by omega), if_pos rfl]) (Ev.bind hT (Ev.bind ei (Ev.bind hq ?_)))))
      exact Ev.congr (fun k => by rw [if_pos rfl]; simp only [hc]) hj2
  refine Ev.step (f := fun k => (laws_toHex.f k p l).bind fun bt293 => ((laws_eqHex.f k p l bt293.1 bt293.2).bind fun t297 => (if t297 = true then ((laws_markHex.f k p l 1).bind fun bt298 => (if bt298.1 < 0 then (laws_FnExactHexMoves.j1 k x c x true p l) else ((laws_eqInt64S.f k x x).bind fun t300 => (if t300 = true then (laws_FnExactHexMoves.j1 k x c x (c != c) p l) else (laws_FnExactHexMoves.j1 k x c x true p l))))) else (some false)))) (fun k => ?_) ?_
  · simp only [laws_FnExactHexMoves.j0]; rw [if_neg (by simp)]
  · refine Ev.bind hT (Ev.bind (eqHex_self p l h1) ?_)
    refine Ev.congr (fun k => by rw [if_pos rfl]) ?_
    refine Ev.bind hMH ?_
    refine Ev.congr (fun k => by rw [if_neg (by omega)]) (Ev.bind hq ?_)
    exact Ev.congr (fun k => by rw [if_pos rfl]; simp only [hc]) hj1

end Go.Proofs.YtbmiojnkfgcfoaaDoor.Pure
