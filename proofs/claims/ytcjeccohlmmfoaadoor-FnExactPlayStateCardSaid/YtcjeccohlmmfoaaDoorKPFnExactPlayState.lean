/- For every net, every text and both players, the program's PlayState answers what the reference's answers, and leaves its arguments as they were. Under no condition. -/
import Derived.Test.YtcjeccohlmmfoaaDoorKFnExactPlayState5
namespace Go.Proofs.YtcjeccohlmmfoaaDoor.Pure
open Go.RowKit Go.Proofs.YtcjeccohlmmfoaaDoor.F Go.Proofs.YtcjeccohlmmfoaaDoorW.PrintWords Go.Proofs.YtcjeccohlmmfoaaDoorW.PrintLast Go.Proofs.YtcjeccohlmmfoaaDoorW.PrintMore
theorem rd_append0 {L : List Int} (M : List Int) (h : L ≠ []) : rd (L ++ M) 0 = rd L 0 := by
  cases L with
  | nil => exact absurd rfl h
  | cons x r => rfl
theorem head_least (p : Int → Bool) : ∀ n : Nat, chosenTo p n ≠ [] → ∀ j : Nat, (j : Int) < rd (chosenTo p n) 0 → p (j : Int) = false
  | 0 => fun h => absurd rfl h
  | n + 1 => by
    intro h j hj
    by_cases hp : p (n : Int) = true
    · rw [chosenTo_succ, if_pos hp] at hj
      by_cases he : chosenTo p n = []
      · rw [he] at hj
        have hjn : (j : Int) < (n : Int) := hj
        cases hpj : p (j : Int) with
        | false => rfl
        | true =>
          have : (j : Int) ∈ chosenTo p n := mem_chosenTo.2 ⟨by omega, hjn, hpj⟩
          rw [he] at this; cases this
      · rw [rd_append0 _ he] at hj
        exact head_least p n he j hj
    · rw [chosenTo_succ, if_neg hp] at hj h
      exact head_least p n h j hj
theorem dot_ev (s : ByteArray) (hs : s.size ≤ 4611686018427387904) (j : Nat) (hj : j < s.size) (h1 : bt s (j : Int) = 46) (h2 : ∀ i : Nat, i < j → bt s (i : Int) ≠ 46) : ∀ (d i : Nat), i + d = j → Ev (fun k => spec_PlayState.dot s k (i : Int)) (j : Int) := by
  intro d
  induction d with
  | zero =>
    intro i hi
    obtain rfl : i = j := by omega
    refine Ev.step (f := fun _ => some (i : Int)) (fun k => ?_) (Ev.now _)
    rw [spec_PlayState.dot, if_pos ⟨⟨by omega, by omega⟩, hs⟩, if_pos h1]
  | succ d ih =>
    intro i hi
    have e := ih (i + 1) (by omega)
    refine Ev.step (f := fun k => spec_PlayState.dot s k ((i + 1 : Nat) : Int)) (fun k => ?_) e
    rw [spec_PlayState.dot, if_pos ⟨⟨by omega, by omega⟩, hs⟩, if_neg (h2 i (by omega))]
    rfl
theorem reachN_congr {A B : Nat → Bool} {l : List (List Int)} {f : Nat} (h : ∀ i, i < l.length → A i = B i) : reachN A l f = reachN B l f := by
  have e : goodSet A l f = goodSet B l f := by
    funext M
    unfold goodSet
    congr 1
    rw [Bool.eq_iff_iff, List.all_eq_true, List.all_eq_true]
    refine ⟨fun g i hi => ?_, fun g i hi => ?_⟩
    · rw [← h i (List.mem_range.1 hi)]; exact g i hi
    · rw [h i (List.mem_range.1 hi)]; exact g i hi
  unfold reachN
  rw [e]
theorem full_over {l : List (List Int)} {s : ByteArray} (hs : s.size = l.length) (hv : ValidS s) (h : freeV s = []) : ovV l s ≠ 0 := by
  have e : reachN (fun i => bt s (i : Int) == 115) l 0 = reachN (fun i => bt s (i : Int) != 99) l 0 := by
    refine reachN_congr fun i hi => ?_
    rcases hv i (by omega) with g | g | g
    · have : (i : Int) ∈ freeV s := mem_freeV.2 ⟨i, rfl, by omega, g⟩
      rw [h] at this; cases this
    · show (bt s (i : Int) == 115) = (bt s (i : Int) != 99)
      rw [g]; rfl
    · show (bt s (i : Int) == 115) = (bt s (i : Int) != 99)
      rw [g]; rfl
  unfold ovV
  rw [e]
  by_cases g : (reachN (fun i => bt s (i : Int) != 99) l 0).testBit 1 = true
  · rw [if_pos g]; omega
  · rw [if_neg g, if_neg g]; omega
theorem play_both (p : Int) (l : List (List Int)) (hl : NetEdges l) : ∀ (n : Nat) (s : ByteArray) (b : Bool) (kn : List Int), (freeV s).length ≤ n → s.size = l.length → ValidS s → KOk l kn → kn.length = 2 * (2 ^ l.length * 2 ^ l.length) → ∃ r, playV l n s b = some r ∧ Ev (fun k => spec_PlayState.l0 p l k s b kn) r := by
  intro n
  induction n with
  | zero =>
    intro s b kn hf hs hv hk hlen
    have hn := hl.1
    have h0 : ovV l s ≠ 0 := full_over hs hv (List.eq_nil_of_length_eq_zero (by omega))
    have hov := ovV_range l s
    have hst := specSets_ev p l s hn
    rw [if_pos ((stOk_iff l s).2 ⟨hs, hv⟩)] at hst
    refine ⟨s, by rw [playV, if_neg h0], ?_⟩
    refine Ev.step (f := fun k => (spec_l10Sets.f k p l s).bind fun t => (spec_l10Over.f k p l t.1 t.2.1).bind fun o => if o > 0 then some s else (spec_l10Moves.f k p l t.1 t.2.1 (ownV b) kn).bind fun m => (if m.1 = [] then spec_PlayState.dot s k 0 else some (rd m.1 0)).bind fun e => if 0 ≤ e ∧ e < (s.size : Int) then spec_PlayState.l0 p l k (afterV s e b) (!b) m.2 else none) (fun k => by rw [spec_PlayState.l0]) ?_
    refine Ev.bind hst (Ev.bind (specOver_ev p l hl s hs) ?_)
    exact Ev.congr (f := fun _ => some s) (fun k => by rw [if_pos (by omega)]) (Ev.now _)
  | succ n ih =>
    intro s b kn hf hs hv hk hlen
    have hn := hl.1
    have hov := ovV_range l s
    have hst := specSets_ev p l s hn
    rw [if_pos ((stOk_iff l s).2 ⟨hs, hv⟩)] at hst
    by_cases h0 : ovV l s = 0
    case neg =>
      refine ⟨s, by rw [playV, if_neg h0], ?_⟩
      refine Ev.step (f := fun k => (spec_l10Sets.f k p l s).bind fun t => (spec_l10Over.f k p l t.1 t.2.1).bind fun o => if o > 0 then some s else (spec_l10Moves.f k p l t.1 t.2.1 (ownV b) kn).bind fun m => (if m.1 = [] then spec_PlayState.dot s k 0 else some (rd m.1 0)).bind fun e => if 0 ≤ e ∧ e < (s.size : Int) then spec_PlayState.l0 p l k (afterV s e b) (!b) m.2 else none) (fun k => by rw [spec_PlayState.l0]) ?_
      refine Ev.bind hst (Ev.bind (specOver_ev p l hl s hs) ?_)
      exact Ev.congr (f := fun _ => some s) (fun k => by rw [if_pos (by omega)]) (Ev.now _)
    have hfn : freeV s ≠ [] := fun h => full_over hs hv h h0
    have hLn : bestV l s b ++ freeV s ≠ [] := fun h => hfn (List.append_eq_nil_iff.1 h).2
    have hx := bestV_sub (rd_mem0 hLn)
    obtain ⟨j, hj, hjs, hjb⟩ := mem_freeV.1 hx
    have hless := free_less s (rd (bestV l s b ++ freeV s) 0) b hx
    obtain ⟨kn1, hm, g1, n1⟩ := specMovesK_ev p l hl s b hs hv kn hk hlen
    have hsz := afterV_size s j b hjs
    obtain ⟨r, hr1, hr2⟩ := ih (afterV s j b) (!b) kn1 (by rw [hj] at hless; omega) (hsz.trans hs) (validS_after hv j b hjs) g1 (n1.trans hlen)
    refine ⟨r, by rw [playV, if_pos h0, if_neg hLn, hj]; exact hr1, ?_⟩
    refine Ev.step (f := fun k => (spec_l10Sets.f k p l s).bind fun t => (spec_l10Over.f k p l t.1 t.2.1).bind fun o => if o > 0 then some s else (spec_l10Moves.f k p l t.1 t.2.1 (ownV b) kn).bind fun m => (if m.1 = [] then spec_PlayState.dot s k 0 else some (rd m.1 0)).bind fun e => if 0 ≤ e ∧ e < (s.size : Int) then spec_PlayState.l0 p l k (afterV s e b) (!b) m.2 else none) (fun k => by rw [spec_PlayState.l0]) ?_
    refine Ev.bind hst (Ev.bind (specOver_ev p l hl s hs) (Ev.congr (f := fun k => (spec_l10Moves.f k p l ((keptS s : Nat) : Int) ((outS s : Nat) : Int) (ownV b) kn).bind fun m => (if m.1 = [] then spec_PlayState.dot s k 0 else some (rd m.1 0)).bind fun e => if 0 ≤ e ∧ e < (s.size : Int) then spec_PlayState.l0 p l k (afterV s e b) (!b) m.2 else none) (fun k => by rw [if_neg (by omega)]) (Ev.bind hm ?_)))
    have hbm : movesV l s b = bestV l s b := rfl
    have hfin : ∀ k : Nat, (if 0 ≤ (j : Int) ∧ (j : Int) < (s.size : Int) then spec_PlayState.l0 p l k (afterV s (j : Int) b) (!b) kn1 else none) = spec_PlayState.l0 p l k (afterV s (j : Int) b) (!b) kn1 := fun k => if_pos ⟨by omega, by omega⟩
    by_cases hb : movesV l s b = []
    · have hjf : rd (freeV s) 0 = (j : Int) := by rw [hbm] at hb; rw [hb] at hj; exact hj
      have hd := dot_ev s (by omega) j hjs hjb (fun i hi he => by
        have := head_least (fun k => bt s k == 46) s.size hfn i (by show (i : Int) < rd (freeV s) 0; rw [hjf]; omega)
        rw [he] at this; cases this) j 0 (by omega)
      refine Ev.congr (f := fun k => (spec_PlayState.dot s k ((0 : Nat) : Int)).bind fun e => if 0 ≤ e ∧ e < (s.size : Int) then spec_PlayState.l0 p l k (afterV s e b) (!b) kn1 else none) (fun k => by rw [if_pos hb]; rfl) (Ev.bind hd ?_)
      exact Ev.congr (fun k => hfin k) hr2
    · have hjf : rd (movesV l s b) 0 = (j : Int) := by rw [hbm] at hb ⊢; rw [rd_append0 _ hb] at hj; exact hj
      refine Ev.congr (f := fun k => if 0 ≤ (j : Int) ∧ (j : Int) < (s.size : Int) then spec_PlayState.l0 p l k (afterV s (j : Int) b) (!b) kn1 else none) (fun k => by rw [if_neg hb, hjf, Option.bind_some]) ?_
      exact Ev.congr (fun k => hfin k) hr2
theorem play_ev (p : Int) (l : List (List Int)) (s : ByteArray) (b : Bool) (hs : s.size ≤ 9223372036854775807) (hl : l.length ≤ 9223372036854775807) : ∃ r : ByteArray × Int, Ev (fun k => spec_PlayState.f k p l s b) r ∧ Ev (fun k => impl_PlayState.f k p l s b) r := by
  by_cases h : stCode p l s = 0
  · obtain ⟨h1, h2⟩ := stCode_zero h
    have hn := (netEdges h1).1
    have hn1 := hn.1
    obtain ⟨hsz, hv⟩ := (stOk_iff l s).1 h2
    have hf : (freeV s).length ≤ 10 := by
      have := chosenTo_le (fun k => bt s k == 46) s.size
      unfold freeV
      omega
    obtain ⟨r, e1, e2⟩ := play_both p l hn 10 s b _ hf hsz hv (KOk_zero l _) (List.length_replicate ..)
    refine ⟨(r, 0), ?_, ?_⟩
    · unfold spec_PlayState.f
      refine Ev.bind (specCode_ev p l s hl) ?_
      refine Ev.congr (f := fun k => (spec_PlayState.l0 p l k s b (List.replicate (2 * (2 ^ l.length * 2 ^ l.length)) 0)).bind fun r => some (r, (0 : Int))) (fun k => by rw [if_pos h, known_val p l hn.1, Option.bind_some]) (Ev.bind e2 (f := fun _ t => some (t, (0 : Int))) (Ev.now _))
    · unfold impl_PlayState.f
      refine Ev.bind (implCode_ev p l s hs) ?_
      exact Ev.congr (f := fun _ => some (r, 0)) (fun k => by rw [if_pos h, if_pos ⟨h1, hsz⟩, e1, Option.bind_some]) (Ev.now _)
  · refine ⟨(⟨#[]⟩, stCode p l s), ?_, ?_⟩
    · unfold spec_PlayState.f
      refine Ev.bind (specCode_ev p l s hl) ?_
      exact Ev.congr (f := fun _ => some (⟨#[]⟩, stCode p l s)) (fun k => by rw [if_neg h]) (Ev.now _)
    · unfold impl_PlayState.f
      refine Ev.bind (implCode_ev p l s hs) ?_
      exact Ev.congr (f := fun _ => some (⟨#[]⟩, stCode p l s)) (fun k => by rw [if_neg h]) (Ev.now _)
theorem FnExactPlayState : laws_FnExactPlayState.Pure := by
  intro p l s b hp hl hs
  refine Ev.rounds (?_ : Ev (fun k => laws_FnExactPlayState.f k p l s b) true)
  unfold laws_FnExactPlayState.f
  by_cases hs2 : (s.size : Int) > 1048576
  · exact Ev.congr (f := fun _ => some true) (fun k => by rw [if_pos hs2]) (Ev.now _)
  refine Ev.congr (fun k => by rw [if_neg hs2]) ?_
  obtain ⟨v, hv, h⟩ := szNet_ev p l hl
  refine Ev.bind hv ?_
  rcases h with rfl | ⟨h0, h1, h2⟩
  · exact Ev.congr (fun k => by rw [if_pos (by omega)]) (Ev.now _)
  refine Ev.congr (fun k => by rw [if_neg (by omega)]) ?_
  obtain ⟨⟨a, c⟩, e1, e2⟩ := play_ev p l s b (by omega) (by omega)
  refine Ev.bind (toNet_ev p l h1 h2) (Ev.bind e1 (Ev.bind (toNet_ev p l h1 h2) (Ev.bind e2 ?_)))
  have hc : (c != c) = false := by simp
  refine Ev.congr (f := fun k => laws_FnExactPlayState.j0 k false p l p l) (fun k => by simp only [if_true, hc]) ?_
  refine Ev.step (f := fun k => (laws_toNet.f k p l).bind fun bt262 => ((laws_eqNet.f k p l bt262.1 bt262.2).bind fun t266 => (if t266 = true then (some true) else (some false)))) (fun k => ?_) ?_
  · simp only [laws_FnExactPlayState.j0]; rw [if_neg (by simp)]
  · refine Ev.bind (toNet_ev p l h1 h2) (Ev.bind (eqNet_self p l h1 h2) ?_)
    exact Ev.congr (f := fun _ => some true) (fun k => by rw [if_pos rfl]) (Ev.now _)

end Go.Proofs.YtcjeccohlmmfoaaDoor.Pure
