/- For every net, every text and every number, the program's ReplyTo answers what the reference's answers, and leaves its arguments as they were. Under no condition. -/
import Derived.Test.YtcjeccohlmmfoaaDoorKFnExactReplyTo5
namespace Go.Proofs.YtcjeccohlmmfoaaDoor.Pure
open Go.RowKit Go.Proofs.YtcjeccohlmmfoaaDoor.F Go.Proofs.YtcjeccohlmmfoaaDoorW.PrintWords Go.Proofs.YtcjeccohlmmfoaaDoorW.PrintLast Go.Proofs.YtcjeccohlmmfoaaDoorW.PrintMore
def replyV (p : Int) (l : List (List Int)) (s : ByteArray) (e : Int) : Int × Int := if stCode p l s = 0 then (if inW e 0 ((l.length : Int) - 1) = true then (if ovV l s = 0 then (if bt s e = 46 then (match movesV l (afterV s e false) true with | [] => (0, 4) | x :: _ => (x, 0)) else (0, 5)) else (0, 5)) else (0, 2)) else (0, stCode p l s)
theorem implReply_ev (p : Int) (l : List (List Int)) (s : ByteArray) (e : Int) (hs : s.size ≤ 9223372036854775807) : Ev (fun k => impl_ReplyTo.f k p l s e) (replyV p l s e) := by
  unfold impl_ReplyTo.f replyV
  refine Ev.bind (implCode_ev p l s hs) ?_
  by_cases h : stCode p l s = 0
  · obtain ⟨h1, h2⟩ := stCode_zero h
    have ho : isNetV p l = true ∧ s.size = l.length := ⟨h1, ((stOk_iff l s).1 h2).1⟩
    have e1 : bestV l (afterV s e false) true = movesV l (afterV s e false) true := rfl
    rw [if_pos h, if_pos h, if_pos ho, e1]
    generalize movesV l (afterV s e false) true = lst
    by_cases a1 : inW e 0 ((l.length : Int) - 1) = true
    · by_cases a2 : ovV l s = 0
      · by_cases a3 : bt s e = 46
        · simp only [if_pos a1, if_pos a2, if_pos a3]
          cases lst <;> exact Ev.now _
        · simp only [if_pos a1, if_pos a2, if_neg a3]
          exact Ev.now _
      · simp only [if_pos a1, if_neg a2]
        exact Ev.now _
    · simp only [if_neg a1]
      exact Ev.now _
  · rw [if_neg h, if_neg h]
    exact Ev.now _
theorem specReply_ev (p : Int) (l : List (List Int)) (s : ByteArray) (e : Int) (hl : l.length ≤ 9223372036854775807) : Ev (fun k => spec_ReplyTo.f k p l s e) (replyV p l s e) := by
  unfold spec_ReplyTo.f replyV
  refine Ev.bind (specCode_ev p l s hl) ?_
  by_cases h : stCode p l s = 0
  case neg =>
    rw [if_neg h]
    refine Ev.congr (f := fun k => spec_ReplyTo.j0 k s e (stCode p l s) false p l) (fun k => by rw [if_neg h]) ?_
    refine Ev.step (f := fun k => spec_ReplyTo.j1 k s e (stCode p l s) p l) (fun k => ?_) (Ev.step (f := fun _ => some (0, stCode p l s)) (fun k => ?_) (Ev.now _))
    · simp only [spec_ReplyTo.j0]; rw [if_neg (by simp)]
    · simp only [spec_ReplyTo.j1]; first | done | rw [if_neg h]
  obtain ⟨h1, h2⟩ := stCode_zero h
  have hn := (netEdges h1).1
  have hn1 := hn.1
  have hst := specSets_ev p l s hn.1
  rw [if_pos h2] at hst
  obtain ⟨hsz, hv⟩ := (stOk_iff l s).1 h2
  have wl : wrap64 ((l.length : Int) - 1) = (l.length : Int) - 1 := by unfold wrap64; omega
  rw [if_pos h]
  refine Ev.congr (f := fun k => spec_ReplyTo.j0 k s e 0 (!(inW e 0 ((l.length : Int) - 1))) p l) (fun k => by rw [if_pos h, wl, in_inW, Option.bind_some, h]) ?_
  by_cases hi : inW e 0 ((l.length : Int) - 1) = true
  case neg =>
    have hi2 : inW e 0 ((l.length : Int) - 1) = false := by simpa using hi
    rw [if_neg hi]
    refine Ev.step (f := fun k => spec_ReplyTo.j1 k s e 2 p l) (fun k => ?_) (Ev.step (f := fun _ => some (0, 2)) (fun k => ?_) (Ev.now _))
    · simp only [spec_ReplyTo.j0]; rw [hi2, if_pos (by simp)]
    · simp only [spec_ReplyTo.j1]; rw [if_neg (by omega)]
  rw [if_pos hi]
  have hrng : 0 ≤ e ∧ e < (s.size : Int) := by
    unfold inW at hi
    rw [Bool.and_eq_true, decide_eq_true_iff, decide_eq_true_iff] at hi
    omega
  refine Ev.step (f := fun k => spec_ReplyTo.j1 k s e 0 p l) (fun k => ?_) ?_
  · simp only [spec_ReplyTo.j0]; rw [hi, if_neg (by simp)]
  refine Ev.step (f := fun k => (spec_l10Sets.f k p l s).bind fun bt285 => ((spec_l10Over.f k p l bt285.1 bt285.2.1).bind fun t288 => (if t288 > 0 then (spec_ReplyTo.j2 k e bt285.1 bt285.2.1 true p l) else (spec_ReplyTo.j2 k e bt285.1 bt285.2.1 ((bt s e) != 46) p l)))) (fun k => ?_) ?_
  · simp only [spec_ReplyTo.j1, hrng.1, hrng.2, if_true]
  refine Ev.bind hst ?_
  have hov := ovV_range l s
  refine Ev.bind (specOver_ev p l hn s hsz) (f := fun k t288 => (if t288 > 0 then (spec_ReplyTo.j2 k e ((keptS s : Nat) : Int) ((outS s : Nat) : Int) true p l) else (spec_ReplyTo.j2 k e ((keptS s : Nat) : Int) ((outS s : Nat) : Int) ((bt s e) != 46) p l))) ?_
  have five : Ev (fun k => spec_ReplyTo.j2 k e ((keptS s : Nat) : Int) ((outS s : Nat) : Int) true p l) (0, 5) := by
    refine Ev.step (f := fun _ => some (0, 5)) (fun k => ?_) (Ev.now _)
    simp only [spec_ReplyTo.j2, if_true]
  by_cases h0 : ovV l s = 0
  case neg =>
    rw [if_neg h0]
    exact Ev.congr (fun k => by rw [if_pos (by omega)]) five
  rw [if_pos h0]
  refine Ev.congr (f := fun k => spec_ReplyTo.j2 k e ((keptS s : Nat) : Int) ((outS s : Nat) : Int) ((bt s e) != 46) p l) (fun k => by rw [if_neg (by omega)]) ?_
  by_cases hd : bt s e = 46
  case neg =>
    rw [if_neg hd]
    exact Ev.congr (fun k => by rw [bne_iff_ne.2 hd]) five
  rw [if_pos hd]
  obtain ⟨j, rfl⟩ : ∃ j : Nat, e = (j : Int) := ⟨e.toNat, by omega⟩
  have hj : j < s.size := by omega
  have hu : IntKind.u64.wrap (j : Int) = (j : Int) := u64_nat j (by omega)
  have hsh : shl .i64 1 (j : Int) = ((2 ^ j : Nat) : Int) := shl_nat j (by omega)
  have h2i : 2 ^ j ≤ 1024 := Nat.pow_le_pow_right (by omega) (by omega : j ≤ 10)
  have hO : outS s < 1024 := Nat.lt_of_lt_of_le (bitsN_lt _ _) (Nat.pow_le_pow_right (by omega) (by omega : s.size ≤ 10))
  obtain ⟨kn, hm⟩ := specMoves_ev p l hn (afterV s j false) true ((afterV_size s j false hj).trans hsz) (validS_after hv j false hj)
  rw [keptS_after s j false hj hd, outS_after s j false hj hd] at hm
  simp only [Bool.false_eq_true, if_false] at hm
  have ho1 : ownV true = 1 := rfl
  rw [ho1] at hm
  refine Ev.step (f := fun k => (spec_l10Moves.f k p l ((keptS s : Nat) : Int) ((outS s ||| 2 ^ j : Nat) : Int) 1 (List.replicate (2 * (2 ^ l.length * 2 ^ l.length)) 0)).bind fun bt292 => (if (bt292.1.length : Int) = 0 then (some (0, 4)) else (if 0 < (bt292.1.length : Int) then (some (rd bt292.1 0, 0)) else (none)))) (fun k => ?_) ?_
  · simp only [spec_ReplyTo.j2]
    rw [if_neg (by simp [hd]), hu, if_pos (by omega), known_val p l hn.1, Option.bind_some, hsh, bits_or_nat _ _ (by omega) (by omega)]
  refine Ev.bind hm ?_
  generalize movesV l (afterV s j false) true = lst
  cases lst with
  | nil => exact Ev.congr (f := fun _ => some (0, 4)) (fun k => by simp) (Ev.now _)
  | cons x r =>
    refine Ev.congr (f := fun _ => some (x, 0)) (fun k => ?_) (Ev.now _)
    have e1 : ((x :: r).length : Int) = (r.length : Int) + 1 := by simp
    dsimp only
    rw [if_neg (by rw [e1]; omega), if_pos (by rw [e1]; omega)]
    rfl
theorem FnExactReplyTo : laws_FnExactReplyTo.Pure := by
  intro p l s e hp hl hs _
  refine Ev.rounds (?_ : Ev (fun k => laws_FnExactReplyTo.f k p l s e) true)
  unfold laws_FnExactReplyTo.f
  by_cases hs2 : (s.size : Int) > 1048576
  · exact Ev.congr (f := fun _ => some true) (fun k => by rw [if_pos hs2]) (Ev.now _)
  refine Ev.congr (fun k => by rw [if_neg hs2]) ?_
  obtain ⟨v, hv, h⟩ := szNet_ev p l hl
  refine Ev.bind hv ?_
  rcases h with rfl | ⟨h0, h1, h2⟩
  · exact Ev.congr (fun k => by rw [if_pos (by omega)]) (Ev.now _)
  refine Ev.congr (fun k => by rw [if_neg (by omega)]) ?_
  refine Ev.bind (toNet_ev p l h1 h2) (Ev.bind (specReply_ev p l s e (by omega)) (Ev.bind (toNet_ev p l h1 h2) (Ev.bind (implReply_ev p l s e (by omega)) ?_)))
  generalize replyV p l s e = r
  obtain ⟨a, c⟩ := r
  have hc : (c != c) = false := by simp
  refine Ev.congr (f := fun k => laws_FnExactReplyTo.j0 k false p l p l) (fun k => by simp only [if_true, hc]) ?_
  refine Ev.step (f := fun k => (laws_toNet.f k p l).bind fun bt262 => ((laws_eqNet.f k p l bt262.1 bt262.2).bind fun t266 => (if t266 = true then (some true) else (some false)))) (fun k => ?_) ?_
  · simp only [laws_FnExactReplyTo.j0]; rw [if_neg (by simp)]
  · refine Ev.bind (toNet_ev p l h1 h2) (Ev.bind (eqNet_self p l h1 h2) ?_)
    exact Ev.congr (f := fun _ => some true) (fun k => by rw [if_pos rfl]) (Ev.now _)

end Go.Proofs.YtcjeccohlmmfoaaDoor.Pure
