
import Derived.Test.YtbmiojnkfgcfoaaDoorKFnExactHexWinner5
namespace Go.Proofs.YtbmiojnkfgcfoaaDoor.Pure
open Go.RowKit Go.Proofs.YtbmiojnkfgcfoaaDoor.F Go.Proofs.YtbmiojnkfgcfoaaDoorW.PrintWords Go.Proofs.YtbmiojnkfgcfoaaDoorW.PrintLast Go.Proofs.YtbmiojnkfgcfoaaDoorW.PrintMore
theorem own_hexw (x : List Int) (h : x.length ≤ 64) : spec_l01Own.f x = some x := by
  unfold spec_l01Own.f
  simp only [Option.bind_some, List.nil_append]
  rw [if_pos (by simp; omega)]
theorem rd_rep0 (n i : Nat) : rd (List.replicate n (0 : Int)) (i : Int) = 0 := by
  unfold rd
  rw [Int.toNat_natCast, List.getD_eq_getElem?_getD, List.getElem?_replicate]
  split <;> rfl
theorem numOf_start (b : List Int) : ∀ E : List Int, (∀ e ∈ E, rd b e = 0) → numOf b E = 0
  | [], _ => rfl
  | e :: r, h => by rw [numOf, numOf_start b r (fun x hx => h x (List.mem_cons_of_mem _ hx)), h e (List.mem_cons_self ..)]; rfl
def codeHexV (p : Int) (l : List Int) : Int := if isHexV p l = true then (if moverV l = 0 then 5 else if (emptyL l).length ≤ 9 then 0 else 3) else 1
theorem implHexCode_some (p : Int) (l : List Int) (hl : l.length ≤ 1048576) : impl_hexCode.f p l = some (codeHexV p l) := by
  unfold impl_hexCode.f codeHexV
  rw [implHexMover, Option.bind_some]
  by_cases hv : isHexV p l = true
  · rw [if_pos hv, if_pos hv]
    by_cases hm : moverV l = 0
    · rw [if_pos hm, if_pos hm, if_neg (by omega)]
    · rw [if_neg hm, if_neg hm, if_pos rfl, cells_some p l 0 (by omega), Option.bind_some]
      have e : (chosenTo (fun c => rd l c == 0) l.length) = emptyL l := rfl
      rw [e]
      by_cases h9 : (emptyL l).length ≤ 9
      · rw [if_pos h9, if_neg (by omega)]
      · rw [if_neg h9, if_pos (by omega)]
  · rw [if_neg hv, if_neg hv, if_neg (by omega)]
theorem specHexCode_ev (p : Int) (l : List Int) (hl : l.length ≤ 1048576) : Ev (fun k => spec_l06Code.f k p l) (if codeHexV p l = 0 then moverV l else 0, codeHexV p l) := by
  have e1 := l06Is_ev p l (by omega)
  have hcount : (emptyL l).length = l.count 0 := chosenTo_all l 0
  unfold spec_l06Code.f
  by_cases hv : isHexV p l = true
  · refine Ev.bind e1 (Ev.congr (fun k => by rw [if_pos hv]) (Ev.bind (l06Mover_ev hv) ?_))
    by_cases hm : moverV l = 0
    · rw [show codeHexV p l = 5 by unfold codeHexV; rw [if_pos hv, if_pos hm], show (if (5 : Int) = 0 then moverV l else 0) = 0 from if_neg (by omega)]
      exact Ev.congr (f := fun _ => some ((0 : Int), (5 : Int))) (fun k => by rw [if_pos hm]) (Ev.now _)
    · by_cases h9 : (emptyL l).length ≤ 9
      · rw [show codeHexV p l = 0 by unfold codeHexV; rw [if_pos hv, if_neg hm, if_pos h9], if_pos rfl]
        exact Ev.congr (f := fun _ => some (moverV l, (0 : Int))) (fun k => by rw [if_neg hm, if_neg (by omega)]) (Ev.now _)
      · rw [show codeHexV p l = 3 by unfold codeHexV; rw [if_pos hv, if_neg hm, if_neg h9], show (if (3 : Int) = 0 then moverV l else 0) = 0 from if_neg (by omega)]
        exact Ev.congr (f := fun _ => some ((0 : Int), (3 : Int))) (fun k => by rw [if_neg hm, if_pos (by omega)]) (Ev.now _)
  · rw [show codeHexV p l = 1 by unfold codeHexV; rw [if_neg hv], show (if (1 : Int) = 0 then moverV l else 0) = 0 from if_neg (by omega)]
    exact Ev.bind e1 (Ev.congr (f := fun _ => some ((0 : Int), (1 : Int))) (fun k => by rw [if_neg hv]) (Ev.now _))
theorem hexWinner_both (p : Int) (l : List Int) (hl : l.length ≤ 1048576) : ∃ r : Int × Int, Ev (fun k => spec_HexWinner.f k p l) r ∧ Ev (fun k => impl_HexWinner.f k p l) r := by
  have ec := specHexCode_ev p l hl
  have ic := implHexCode_some p l hl
  by_cases hc : codeHexV p l = 0
  · have hok : hexOk p l := by
      unfold codeHexV at hc
      unfold hexOk
      split at hc
      · rename_i h1
        split at hc
        · omega
        · rename_i h2
          split at hc
          · rename_i h3
            exact ⟨h1, h2, h3⟩
          · omega
      · omega
    obtain ⟨hv, hm, h9⟩ := hok
    obtain ⟨n, rfl, h1, h8, hln⟩ := hex_natJ hv
    have h64 := hex_small hv
    obtain ⟨J, hJ⟩ := joiner_fun
    have ee := specEmpty_ev (n : Int) l h64 h9
    have hz : ∀ e ∈ emptyL l, rd l e = 0 := fun e he => beq_iff_eq.1 ((chosen_pair (fun c => rd l c == 0) l.length).2 e he).2.2
    have hk : KnH n (fun b => J n b) l (List.replicate (3 ^ (emptyL l).length) 0) := ⟨List.length_replicate .., fun b _ _ _ h => by rw [rd_rep0] at h; omega⟩
    obtain ⟨kn, _, hs⟩ := specHexWin_ev (n := n) (fun b => J n b) (fun b hb => ⟨(hJ n b hb).1, (hJ n b hb).2.2⟩) own_hexw (l0 := l) h9 h64 (emptyL l).length l _ rfl hv hm ⟨rfl, fun _ _ _ => rfl⟩ hk
    rw [numOf_start l _ hz] at hs
    have hi := hexWinF_ev (n := n) (fun b => J n b) (fun b hb => ⟨(hJ n b hb).1, (hJ n b hb).2.1⟩) (emptyL l).length l hv hm rfl
    refine ⟨(Wj (fun b => J n b) l, 0), ?_, ?_⟩
    · unfold spec_HexWinner.f
      rw [hc, if_pos rfl] at ec
      refine Ev.bind ec (Ev.congr (fun k => by rw [if_pos rfl]) (Ev.bind ee (Ev.bind hs ?_)))
      exact Ev.now _
    · refine Ev.congr (f := fun k => (hexWinF k n (emptyL l).length l).bind fun v => some (v, 0)) (fun k => ?_) (Ev.bind hi (Ev.now _))
      unfold impl_HexWinner.f
      rw [ic, hc, Option.bind_some, if_pos rfl, if_pos ⟨hv, hm, h9⟩]
  · refine ⟨(0, codeHexV p l), ?_, ?_⟩
    · unfold spec_HexWinner.f
      rw [if_neg hc] at ec
      exact Ev.bind ec (Ev.congr (f := fun _ => some (0, codeHexV p l)) (fun k => by rw [if_neg hc]) (Ev.now _))
    · refine Ev.congr (f := fun _ => some (0, codeHexV p l)) (fun k => ?_) (Ev.now _)
      unfold impl_HexWinner.f
      rw [ic, Option.bind_some, if_neg hc]
/- For every board, and whatever is none, the program's HexWinner answers what the reference's answers, and leaves its argument as it was. Under no condition. -/
theorem FnExactHexWinner : laws_FnExactHexWinner.Pure := by
  intro p l hp hl
  refine Ev.rounds (?_ : Ev (fun k => laws_FnExactHexWinner.f k p l) true)
  unfold laws_FnExactHexWinner.f
  obtain ⟨v, hv, h⟩ := szHex_ev p l hl.1
  rw [hv]
  rcases h with rfl | ⟨h0, h1⟩
  · exact Ev.now _
  · refine Ev.congr (fun k => by rw [Option.bind_some, if_neg (by omega)]) ?_
    obtain ⟨⟨x, c⟩, es, ei⟩ := hexWinner_both p l h1
    refine Ev.bind (toHex_ev p l h1) (Ev.bind es (Ev.bind (toHex_ev p l h1) (Ev.bind ei ?_)))
    refine Ev.congr (f := fun k => laws_FnExactHexWinner.j0 k false p l p l) (fun k => ?_) ?_
    · rw [if_pos rfl]
      simp
    · refine Ev.step (f := fun k => (laws_toHex.f k p l).bind fun bt165 => ((laws_eqHex.f k p l bt165.1 bt165.2).bind fun t169 => (if t169 = true then (some true) else (some false)))) (fun k => ?_) ?_
      · simp only [laws_FnExactHexWinner.j0]; rw [if_neg (by simp)]
      · refine Ev.bind (toHex_ev p l h1) ?_
        refine Ev.bind (eqHex_self p l h1) ?_
        exact Ev.congr (f := fun _ => some true) (fun k => by rw [if_pos rfl]) (Ev.now _)

end Go.Proofs.YtbmiojnkfgcfoaaDoor.Pure
