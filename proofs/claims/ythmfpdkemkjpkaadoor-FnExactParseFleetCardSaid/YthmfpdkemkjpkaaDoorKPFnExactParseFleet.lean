
import Derived.Test.YthmfpdkemkjpkaaDoorKFnExactParseFleet6
namespace Go.Proofs.YthmfpdkemkjpkaaDoor.Pure
open Go.RowKit Go.Proofs.YthmfpdkemkjpkaaDoor.F Go.Proofs.YthmfpdkemkjpkaaDoorW.PrintWords Go.Proofs.YthmfpdkemkjpkaaDoorW.PrintLast Go.Proofs.YthmfpdkemkjpkaaDoorW.PrintMore
theorem implText_ev (w h : Int) (l fl : List Int) (hl : l.length ≤ 1048576) : Ev (fun k => impl_FleetText.f k w h l fl) (if codeV w h l fl = 0 then textV w.toNat h.toNat fl else (⟨#[]⟩ : ByteArray), codeV w h l fl) := by
  have i1 := implCode_ev w h l fl hl
  unfold impl_FleetText.f
  by_cases hz : codeV w h l fl = 0
  · have hs : seaV w h l = true := by
      unfold codeV at hz
      by_cases hs : seaV w h l = true
      · exact hs
      · rw [if_neg hs] at hz; cases hz
    obtain ⟨wn, hn, _, _, _, _, _, _, hl3, hfl, _⟩ := code_zero hz
    refine Ev.bind i1 (Ev.congr (f := fun _ => some _) (fun k => ?_) (Ev.now _))
    rw [if_pos hz, if_pos ⟨hs, by omega⟩, if_pos hz, hz]
  · refine Ev.bind i1 (Ev.congr (f := fun _ => some _) (fun k => ?_) (Ev.now _))
    rw [if_neg hz, if_neg hz]
theorem parse_both (w h : Int) (l : List Int) (txt : ByteArray) (hl : l.length ≤ 1048576) (ht : txt.size ≤ 1048576) : ∃ r : List Int × Int, (r.1.length ≤ 1048576) ∧ Ev (fun k => spec_ParseFleet.f k w h l txt) r ∧ Ev (fun k => impl_ParseFleet.f k w h l txt) r := by
  have e1 := l09Is_ev w h l (by omega)
  have i1 := implIsSea_ev w h l (by omega)
  unfold spec_ParseFleet.f impl_ParseFleet.f
  by_cases hs : seaV w h l = true
  · obtain ⟨⟨wn, rfl, hw1, hw5⟩, ⟨hn, rfl, hh1, hh5⟩, hl1, hl3⟩ := seaV_nat hs
    obtain ⟨⟨o, b⟩, er, hr1, hr2⟩ := read_ev ⟨hw1, hw5⟩ ⟨hh1, hh5⟩ hl3 hs txt ht
    obtain ⟨sg, hsg⟩ : ∃ sg : ByteArray, sg = ⟨(noS txt.data.toList).toArray⟩ := ⟨_, rfl⟩
    have hsd : sg.data.toList = noS txt.data.toList := by rw [hsg]
    have hrep : strings_ReplaceAll.f txt ⟨#[47]⟩ ⟨#[]⟩ = some sg := by
      unfold strings_ReplaceAll.f
      rw [if_pos ⟨rfl, rfl, ht⟩, hsg]
    have hsz : sg.size ≤ 1048576 := by
      rw [Lib.size_eq, hsd]
      have : (noS txt.data.toList).length ≤ txt.data.toList.length := List.length_filter_le _ _
      rw [← Lib.size_eq] at this
      omega
    obtain ⟨out, hout⟩ : ∃ out, readAll sg sg.size 0 (List.replicate l.length 0) = out := ⟨_, rfl⟩
    have hol : out.length = l.length := by rw [← hout, readAll_len, List.length_replicate]
    have e2 := implText_ev (wn : Int) (hn : Int) l out hl
    have hcode : codeV (wn : Int) (hn : Int) l out = if fleetV wn hn l out = true then 0 else 2 := by
      unfold codeV
      rw [if_pos hs, Int.toNat_natCast, Int.toNat_natCast]
    have hX : ((if codeV (wn : Int) (hn : Int) l out = 0 then textV (wn : Int).toNat (hn : Int).toNat out else (⟨#[]⟩ : ByteArray)), codeV (wn : Int) (hn : Int) l out) = if fleetV wn hn l out = true then (textV wn hn out, 0) else ((⟨#[]⟩ : ByteArray), 2) := by
      rw [hcode, Int.toNat_natCast, Int.toNat_natCast]
      by_cases hv : fleetV wn hn l out = true
      · rw [if_pos hv, if_pos rfl, if_pos hv]
      · rw [if_neg hv, if_neg (by omega), if_neg hv]
    rw [hX] at e2
    have hI : Ev (fun k => (impl_IsSea.f k wn hn l).bind fun b => if b = true then (if 1 ≤ l.length ∧ l.length ≤ 3 then (strings_ReplaceAll.f txt ⟨#[47]⟩ ⟨#[]⟩).bind fun sg => if sg.size ≤ 1048576 then (impl_FleetText.f k wn hn l (readAll sg sg.size 0 (List.replicate l.length 0))).bind fun t => if t.2 = 0 ∧ (t.1.toList == txt.toList) = true then some (readAll sg sg.size 0 (List.replicate l.length 0), (0 : Int)) else some ([], 6) else none else none) else some ([], 1)) (if fleetV wn hn l out = true ∧ textV wn hn out = txt then (out, (0 : Int)) else ([], 6)) := by
      refine Ev.bind i1 (Ev.congr (f := fun k => (impl_FleetText.f k wn hn l out).bind fun t => if t.2 = 0 ∧ (t.1.toList == txt.toList) = true then some (out, (0 : Int)) else some ([], 6)) (fun k => ?_) (Ev.bind e2 (Ev.congr (f := fun _ => some (if fleetV wn hn l out = true ∧ textV wn hn out = txt then (out, (0 : Int)) else ([], 6))) (fun k => ?_) (Ev.now _))))
      · rw [hs, if_pos rfl, if_pos ⟨hl1, hl3⟩, hrep, Option.bind_some, if_pos hsz, hout]
      · by_cases hv : fleetV wn hn l out = true
        · rw [if_pos hv]
          by_cases htx : textV wn hn out = txt
          · rw [if_pos ⟨rfl, by rw [htx]; simp⟩, if_pos ⟨hv, htx⟩]
          · have ht2 : ¬ ((textV wn hn out).toList == txt.toList) = true := fun h => htx (by
              have h3 : (textV wn hn out).toList = txt.toList := by simpa using h
              exact ByteArray.ext (by rw [← Array.toList_inj, ← ByteArray.toList_eq, ← ByteArray.toList_eq]; exact h3))
            show (if (0 : Int) = 0 ∧ ((textV wn hn out).toList == txt.toList) = true then some (out, (0 : Int)) else some ([], 6)) = _
            rw [if_neg (fun h => ht2 h.2), if_neg (fun h => htx h.2)]
        · rw [if_neg hv, if_neg (fun h => absurd h.1 (by simp)), if_neg (fun h => hv h.1)]
    have hfound : ∀ fl, Right wn hn l txt fl → out = fl := fun fl hf => by
      obtain ⟨hfl, hnum, _⟩ := right_num hs hf.1
      have hN : wn * hn ≤ 25 := Nat.mul_le_mul hw5 hh5
      rw [← hout, ← hfl]
      refine read_text hf.1 hN hnum (by omega) sg ?_
      rw [hsd, ← hf.2, textV_eq (by omega) (by omega)]
      exact noS_text fl wn (wn * hn)
    cases b with
    | true =>
      have hf := hr1 rfl
      have := hfound o hf
      subst this
      rw [if_pos (show fleetV wn hn l out = true ∧ textV wn hn out = txt from hf)] at hI
      refine ⟨(out, 0), by rw [hol]; exact hl, Ev.bind e1 (Ev.congr (fun k => by rw [hs, if_pos rfl]) (Ev.bind er (Ev.congr (f := fun _ => some (out, 0)) (fun k => by rw [if_pos rfl]) (Ev.now _)))), hI⟩
    | false =>
      have hno : ¬ (fleetV wn hn l out = true ∧ textV wn hn out = txt) := fun h => by
        have := hr2 out h
        injection this with _ h2
        cases h2
      rw [if_neg hno] at hI
      refine ⟨([], 6), by simp, Ev.bind e1 (Ev.congr (fun k => by rw [hs, if_pos rfl]) (Ev.bind er (Ev.congr (f := fun _ => some (([] : List Int), 6)) (fun k => by rw [if_neg (by simp)]) (Ev.now _)))), hI⟩
  · have hs' : seaV w h l = false := by simpa using hs
    exact ⟨([], 1), by simp, Ev.bind e1 (Ev.congr (f := fun _ => some (([] : List Int), 1)) (fun k => by rw [hs', if_neg (by simp)]) (Ev.now _)), Ev.bind i1 (Ev.congr (f := fun _ => some (([] : List Int), 1)) (fun k => by rw [hs', if_neg (by simp)]) (Ev.now _))⟩
/- For every sea and every text, and whatever is none, the program's ParseFleet answers what the reference's answers, in memory of its own, and leaves its arguments as they were. Under no condition. -/
theorem FnExactParseFleet : laws_FnExactParseFleet.Pure := by
  intro w h l txt _ _ hl _
  refine Ev.rounds (?_ : Ev (fun k => laws_FnExactParseFleet.f k w h l txt) true)
  unfold laws_FnExactParseFleet.f
  by_cases hbig : (txt.size : Int) > 1048576
  · exact Ev.congr (f := fun _ => some true) (fun k => by rw [if_pos hbig]) (Ev.now _)
  refine Ev.congr (fun k => by rw [if_neg hbig]) ?_
  obtain ⟨v, hv, hh⟩ := szSea_ev w h l hl.1
  rw [hv]
  rcases hh with rfl | ⟨h0, h1⟩
  · exact Ev.now _
  refine Ev.congr (fun k => by rw [Option.bind_some, if_neg (by omega)]) ?_
  obtain ⟨⟨x, c⟩, hx, es, ei⟩ := parse_both w h l txt h1 (by omega)
  have hx : x.length ≤ 1048576 := hx
  have hT := toSea_ev w h l h1
  have hq := eqInt64S_self x (by omega)
  have hc : (c != c) = false := by simp
  have hHx := held_ev 1 (by omega) x.length (by omega)
  have hMx := mark_ev 1 (by omega) x (by omega)
  refine Ev.bind hT (Ev.bind es (Ev.bind hT (Ev.bind ei (Ev.bind hq (Ev.congr (f := fun k => laws_FnExactParseFleet.j0 k txt x c x c false w h l w h l) (fun k => by rw [if_pos rfl]; simp only [hc]) ?_)))))
  have hj2 : Ev (fun k => laws_FnExactParseFleet.j2 k (countUp 1 x.length) (1 + x.length) false) true := by
    refine Ev.step (f := fun k => (laws_heldInt64S.f k (countUp 1 x.length) 1).bind fun t641 => (if t641 < 0 then (some false) else (if t641 = 1 + x.length then (some true) else (some false)))) (fun k => ?_) ?_
    · simp only [laws_FnExactParseFleet.j2]; rw [if_neg (by simp)]
    · refine Ev.bind hHx ?_
      exact Ev.congr (f := fun _ => some true) (fun k => by rw [if_neg (by omega), if_pos rfl]) (Ev.now _)
  have hj1 : Ev (fun k => laws_FnExactParseFleet.j1 k txt x c x false w h l) true := by
    refine Ev.step (f := fun k => (laws_markInt64S.f k x 1).bind fun bt625 => ((laws_heldInt64S.f k bt625.2 1).bind fun t627 => (if t627 < 0 then (some false) else (if t627 = bt625.1 then ((laws_toSea.f k w h l).bind fun bt628 => ((impl_ParseFleet.f k bt628.1 bt628.2.1 bt628.2.2 txt).bind fun bt636 => ((laws_eqInt64S.f k bt636.1 x).bind fun t640 => (if t640 = true then (laws_FnExactParseFleet.j2 k bt625.2 bt625.1 (bt636.2 != c)) else (laws_FnExactParseFleet.j2 k bt625.2 bt625.1 true))))) else (some false))))) (fun k => ?_) ?_
    · simp only [laws_FnExactParseFleet.j1]; rw [if_neg (by simp)]
    · refine Ev.bind hMx (Ev.bind hHx (Ev.congr (fun k => by rw [if_neg (by omega), if_pos rfl]) (Ev.bind hT (Ev.bind ei (Ev.bind hq ?_)))))
      exact Ev.congr (fun k => by rw [if_pos rfl]; simp only [hc]) hj2
  refine Ev.step (f := fun k => (laws_toSea.f k w h l).bind fun bt610 => ((laws_eqSea.f k w h l bt610.1 bt610.2.1 bt610.2.2).bind fun t615 => (if t615 = true then ((laws_markSea.f k w h l 1).bind fun bt620 => (if bt620.1 < 0 then (laws_FnExactParseFleet.j1 k txt x c x true w h l) else ((laws_eqInt64S.f k x x).bind fun t624 => (if t624 = true then (laws_FnExactParseFleet.j1 k txt x c x (c != c) w h l) else (laws_FnExactParseFleet.j1 k txt x c x true w h l))))) else (some false)))) (fun k => ?_) ?_
  · simp only [laws_FnExactParseFleet.j0]; rw [if_neg (by simp)]
  · refine Ev.bind hT (Ev.bind (eqSea_self w h l h1) ?_)
    refine Ev.congr (fun k => by rw [if_pos rfl]) ?_
    refine Ev.bind (markSea_ev w h l h1) ?_
    refine Ev.congr (fun k => by rw [if_neg (by omega)]) (Ev.bind hq ?_)
    exact Ev.congr (fun k => by rw [if_pos rfl]; simp only [hc]) hj1

end Go.Proofs.YthmfpdkemkjpkaaDoor.Pure
