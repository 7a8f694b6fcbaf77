-- written by the session's program xp.py over the kit's print program, and by hand; texts joined by pack.py
import Derived.Test.YtiancdhpdjmacaaKFnExactCertainCells6
namespace Go.Proofs.Ytiancdhpdjmacaa.F
open Go.RowKit Go.Proofs.YtiancdhpdjmacaaW.PrintWords Go.Proofs.YtiancdhpdjmacaaW.PrintLast Go.Proofs.YtiancdhpdjmacaaW.PrintMore
attribute [local go_sem] max2_int min2_int max_two min_two max_three min_three max_four min_four   -- for this text's walks alone
set_option linter.unusedVariables false
set_option linter.unusedSimpArgs false

-- The reference's certain cells. (for 52)
-- openV openB openB_rd chosenTo_le
theorem certain_ev {N : Nat} (hN : N ≤ 25) (list : List Int) (hl : list.length = N) (T : List S93) (tot : Int) (ht : tot ≠ 0) : Ev (fun k => spec_CertainCells.l0 k list tot (openB N T) [] [] 0) (openV N T (fun c => rd list c == tot), openV N T (fun c => rd list c == 0), 0) := by
  have hlen := openB_len N T
  unfold openV
  obtain ⟨p1, hp1⟩ : ∃ p : Int → Bool, p = fun c => (rd list c == tot) && !(T.any fun x => x.f0 == c) := ⟨_, rfl⟩
  obtain ⟨p2, hp2⟩ : ∃ p : Int → Bool, p = fun c => (rd list c == 0) && !(T.any fun x => x.f0 == c) := ⟨_, rfl⟩
  rw [← hp1, ← hp2]
  have key : ∀ (d c : Nat), c + d = N → Ev (fun k => spec_CertainCells.l0 k list tot (openB N T) (chosenTo p1 c) (chosenTo p2 c) c) (chosenTo p1 N, chosenTo p2 N, 0) := by
    intro d
    induction d with
    | zero =>
      intro c hc
      have e : c = N := by omega
      subst e
      refine Ev.step (f := fun _ => some _) (fun k => ?_) (Ev.now _)
      simp only [spec_CertainCells.l0]
      rw [if_neg (by rw [hlen]; omega)]
    | succ d ih =>
      intro c hc
      have hcN : c < N := by omega
      have c1 : (c : Int) < ((openB N T).length : Int) := by rw [hlen]; omega
      have c2 : (0 : Int) ≤ (c : Int) := by omega
      have c3 : (c : Int) < (list.length : Int) := by omega
      have hw := wrap_one (a := c) (by omega)
      have h1 := chosenTo_le p1 c
      have h2 := chosenTo_le p2 c
      have l1 : (chosenTo p1 c).length < 17592186044416 := by omega
      have l2 : (chosenTo p2 c).length < 17592186044416 := by omega
      have s1 : chosenTo p1 (c + 1) = if p1 (c : Int) = true then chosenTo p1 c ++ [(c : Int)] else chosenTo p1 c := rfl
      have s2 : chosenTo p2 (c + 1) = if p2 (c : Int) = true then chosenTo p2 c ++ [(c : Int)] else chosenTo p2 c := rfl
      have ih1 := ih (c + 1) (by omega)
      rw [s1, s2] at ih1
      have ho := openB_rd T hcN
      have e1 : p1 (c : Int) = ((rd list (c : Int) == tot) && !(T.any fun x => x.f0 == (c : Int))) := by rw [hp1]
      have e2 : p2 (c : Int) = ((rd list (c : Int) == 0) && !(T.any fun x => x.f0 == (c : Int))) := by rw [hp2]
      rw [← ho] at e1 e2
      generalize chosenTo p1 c = x1 at *
      generalize chosenTo p2 c = x2 at *
      cases hob : rdOf false (openB N T) (c : Int) with
      | false =>
        rw [hob, Bool.and_false] at e1 e2
        rw [e1, e2, if_neg (by simp), if_neg (by simp)] at ih1
        refine Ev.step (f := fun k => spec_CertainCells.j1 k list tot (openB N T) x1 x2 c false) (fun k => ?_) (Ev.step (fun k => ?_) ih1)
        · simp only [spec_CertainCells.l0]
          rw [if_pos c1, if_pos c2, hob, if_neg (by simp)]
        · simp only [spec_CertainCells.j1]
          rw [if_neg (by simp), if_pos c2, if_pos c1, hob, if_neg (by simp), hw]
      | true =>
        rw [hob, Bool.and_true] at e1 e2
        rw [e1, e2] at ih1
        refine Ev.step (f := fun k => spec_CertainCells.j1 k list tot (openB N T) x1 x2 c (rd list (c : Int) == tot)) (fun k => ?_) ?_
        · simp only [spec_CertainCells.l0]
          rw [if_pos c1, if_pos c2, hob, if_pos rfl, if_pos c3]
        · by_cases ha : rd list (c : Int) = tot
          · have ha1 : (rd list (c : Int) == tot) = true := beq_iff_eq.mpr ha
            have ha2 : (rd list (c : Int) == 0) = false := beq_eq_false_iff_ne.mpr (by rw [ha]; exact ht)
            rw [ha1, ha2, if_pos rfl, if_neg (by simp)] at ih1
            rw [ha1]
            refine Ev.step (fun k => ?_) ih1
            simp only [spec_CertainCells.j1]
            rw [if_pos trivial, if_pos l1, hw]
          · have ha1 : (rd list (c : Int) == tot) = false := beq_eq_false_iff_ne.mpr ha
            rw [ha1, if_neg (by simp)] at ih1
            rw [ha1]
            by_cases hz : rd list (c : Int) = 0
            · have hz1 : (rd list (c : Int) == 0) = true := beq_iff_eq.mpr hz
              rw [hz1, if_pos rfl] at ih1
              refine Ev.step (fun k => ?_) ih1
              simp only [spec_CertainCells.j1]
              rw [if_neg (by simp), if_pos c2, if_pos c1, hob, if_pos rfl, if_pos c3, if_pos hz, if_pos l2, hw]
            · have hz1 : (rd list (c : Int) == 0) = false := beq_eq_false_iff_ne.mpr hz
              rw [hz1, if_neg (by simp)] at ih1
              refine Ev.step (fun k => ?_) ih1
              simp only [spec_CertainCells.j1]
              rw [if_neg (by simp), if_pos c2, if_pos c1, hob, if_pos rfl, if_pos c3, if_neg hz, hw]
  exact key N 0 (by omega)
-- Marking shots ends. (for 49)
theorem markShotS_ev (T : List S93) (hT : T.length ≤ 1048576) (m : Int) (h0 : 0 ≤ m) (hm : m ≤ 10000000) : ∃ r : Int × List S93, Ev (fun k => laws_markShotS.f k T m) r ∧ 0 ≤ r.1 := by
  have key : ∀ (d i : Nat) (x : List S93) (m : Int), i + d = x.length → x.length ≤ 1048576 → 0 ≤ m → m + 2 * (d : Int) ≤ 100000000 → ∃ r : Int × List S93, Ev (fun k => laws_markShotS.l0 k x m i) r ∧ 0 ≤ r.1 := by
    intro d
    induction d with
    | zero =>
      intro i x m hi hx h0 _
      refine ⟨(m, x), Ev.step (f := fun _ => some (m, x)) (fun k => ?_) (Ev.now _), h0⟩
      simp only [laws_markShotS.l0]
      rw [if_neg (by omega)]
    | succ d ih =>
      intro i x m hi hx h0 hb
      obtain ⟨r, hr, hr0⟩ := ih (i + 1) ((x.set i ⟨m, (rd_T93 x (i : Int)).f1⟩).set i ⟨(rd_T93 (x.set i ⟨m, (rd_T93 x (i : Int)).f1⟩) (i : Int)).f0, m + 1⟩) (m + 2) (by simp; omega) (by simpa using hx) (by omega) (by omega)
      refine ⟨r, Ev.step (fun k => ?_) hr, hr0⟩
      have w1 : wrap64 (m + 1) = m + 1 := by unfold wrap64; omega
      have w2 : wrap64 (m + 1 + 1) = m + 2 := by unfold wrap64; omega
      have w3 : wrap64 ((i : Int) + 1) = ((i + 1 : Nat) : Int) := by unfold wrap64; omega
      simp only [laws_markShotS.l0]
      rw [if_pos (by omega), if_pos (by omega), Option.bind_some, w1, w2, w3, Int.toNat_natCast]
  obtain ⟨r, hr, h⟩ := key T.length 0 T m (by omega) hT h0 (by omega)
  exact ⟨r, hr, h⟩
-- The code of a sea and shots. (for 89 83)
-- specShots_ev implShots_ev first_one shotsIn diffL_iff
def shotsV (w h : Int) (l : List Int) (T : List S93) : Int := if seaV w h l = true then (if shotsOk (w.toNat * h.toNat) T = true then 0 else 2) else 1
theorem specShotsCode_ev (w h : Int) (l : List Int) (T : List S93) (hl : l.length ≤ 1048576) (hT : T.length ≤ 1048576) : Ev (fun k => spec_l09Shots.f k w h l T) (shotsV w h l T) := by
  have e1 := l09Is_ev w h l (by omega)
  unfold spec_l09Shots.f shotsV
  cases hs : seaV w h l with
  | false =>
    rw [hs] at e1
    rw [if_neg (by simp)]
    exact Ev.bind e1 (Ev.congr (fun k => by rw [if_neg (by simp)]) (Ev.now _))
  | true =>
    rw [hs] at e1
    obtain ⟨⟨wn, rfl, hw1, hw5⟩, ⟨hn', rfl, hh1, hh5⟩, _, h3⟩ := seaV_nat hs
    simp only [Int.toNat_natCast]
    rw [if_pos trivial]
    exact Ev.bind e1 (Ev.congr (fun k => by rw [if_pos rfl]) (specShots_ev rfl (place_small_ hw5 hh5) l T hT))
theorem implShotsCode_ev (w h : Int) (l : List Int) (T : List S93) (hl : l.length ≤ 1048576) (hT : T.length ≤ 1048576) : Ev (fun k => impl_shotsCode.f k w h l T) (shotsV w h l T) := by
  have e1 := implIsSea_ev w h l (by omega)
  unfold impl_shotsCode.f shotsV
  cases hs : seaV w h l with
  | false =>
    rw [hs] at e1
    rw [if_neg (by simp)]
    exact Ev.bind e1 (Ev.congr (fun k => by rw [if_neg (by simp)]) (Ev.now _))
  | true =>
    rw [hs] at e1
    obtain ⟨⟨wn, rfl, hw1, hw5⟩, ⟨hn', rfl, hh1, hh5⟩, _, h3⟩ := seaV_nat hs
    simp only [Int.toNat_natCast]
    rw [if_pos trivial]
    refine Ev.bind e1 (Ev.congr (fun k => by rw [if_pos rfl]) (Ev.bind (implShots_ev rfl (place_small_ hw5 hh5) l T hT) ?_))
    exact Ev.bind (first_one (shotsOk (wn * hn') T)) (Ev.now _)
theorem shotsV_zero {w h : Int} {l : List Int} {T : List S93} (hz : shotsV w h l T = 0) : seaV w h l = true ∧ shotsOk (w.toNat * h.toNat) T = true ∧ shotsIn T = true := by
  unfold shotsV at hz
  by_cases hs : seaV w h l = true
  · rw [if_pos hs] at hz
    by_cases hk : shotsOk (w.toNat * h.toNat) T = true
    · refine ⟨hs, hk, ?_⟩
      obtain ⟨⟨wn, rfl, hw1, hw5⟩, ⟨hn', rfl, hh1, hh5⟩, _, h3⟩ := seaV_nat hs
      unfold shotsOk at hk
      simp only [Bool.and_eq_true, Int.toNat_natCast] at hk
      have hin := ((diffL_iff _ _ 0).1 hk.2).1
      have h25 := place_small_ hw5 hh5
      refine List.all_eq_true.2 (fun x hx => ?_)
      have := hin x.f0 (List.mem_map.2 ⟨x, hx, rfl⟩)
      simp only [Bool.and_eq_true, decide_eq_true_eq]
      omega
    · rw [if_neg hk] at hz
      cases hz
  · rw [if_neg hs] at hz
    cases hz
/-- The one pure statement of laws_FnExactCertainCells. -/
def laws_FnExactCertainCells.Pure : Prop := ∀ (a0_0 : Int) (a0_1 : Int) (l0_2 : List Int) (l1 : List (S95)), (Lit.int .i64 a0_0).wf = true → (Lit.int .i64 a0_1).wf = true → (l0_2.length ≤ maxLen ∧ ∀ y19_ ∈ l0_2, (Lit.int .i64 y19_).wf = true) → (l1.length ≤ maxLen ∧ ∀ y20_ ∈ l1, ((Lit.int .i64 y20_.f0).wf = true ∧ (Lit.int .i64 y20_.f1).wf = true)) → ∃ k, laws_FnExactCertainCells.f k a0_0 a0_1 l0_2 l1 = some true
/-- A type's readings as data are values of a kind: what an argument of that type is, whatever it holds. -/
def Rdb {α : Type} (P : Program) (t : TypeId) (d : Kd α) (wf : α → Prop) : Prop :=
  ∀ (H : Type) (enc : TypeId × Value → H) (w : World) (base : Nat) (spare : Nat → Bool) (held : Bool) (fuel : Nat) (cs : List Value) (x : DataW H × List MemPlace),
    DataW.trod enc P w base spare held fuel t cs = some x → ∃ a : α, d.K w a cs ∧ wf a
theorem Rdb.int {P : Program} {t : TypeId} {k : IntKind} (ht : P.underlying t = some (.int k)) : Rdb P t (Kd.int k) (fun n => (Lit.int k n).wf = true) := by
  intro H enc w base spare held fuel cs x h
  obtain ⟨n, rfl, _, hw⟩ := DataW.trod_int ht h
  exact ⟨n, rfl, hw⟩
theorem Rdb.bool {P : Program} {t : TypeId} (ht : P.underlying t = some .bool) : Rdb P t Kd.bool (fun _ => True) := by
  intro H enc w base spare held fuel cs x h
  obtain ⟨n, rfl, _⟩ := DataW.trod_bool ht h
  exact ⟨n, rfl, trivial⟩
theorem Rdb.string {P : Program} {t : TypeId} (ht : P.underlying t = some .string) : Rdb P t Kd.string (fun s => s.size ≤ maxLen) := by
  intro H enc w base spare held fuel cs x h
  obtain ⟨s, rfl, _, hs⟩ := DataW.trod_string ht h
  exact ⟨s, rfl, hs⟩
theorem list_choose {α β : Type} {R : Nat → α → β → Prop} : ∀ (n : Nat) (xs : List α), xs.length = n → (∀ i x, xs[i]? = some x → ∃ y, R i x y) → ∃ ys : List β, ys.length = n ∧ ∀ i x y, xs[i]? = some x → ys[i]? = some y → R i x y := by
  intro n xs
  induction xs generalizing n R with
  | nil =>
    intro hl _
    exact ⟨[], by simpa using hl, by intro i x y h; simp at h⟩
  | cons x xs ih =>
    intro hl h
    obtain ⟨y, hy⟩ := h 0 x rfl
    obtain ⟨ys, h1, h2⟩ := ih (R := fun i a b => R (i + 1) a b) (n - 1) (by simp at hl; omega) (fun i a hi => h (i + 1) a (by simpa using hi))
    refine ⟨y :: ys, by simp at hl ⊢; omega, fun i a b ha hb => ?_⟩
    cases i with
    | zero =>
      simp at ha hb
      subst ha hb
      exact hy
    | succ i => exact h2 i a b (by simpa using ha) (by simpa using hb)
theorem Rdb.slice {α : Type} {P : Program} {t e : TypeId} {d : Kd α} {wf : α → Prop} (ht : P.underlying t = some (.slice e)) (hc : P.cellsOf e = d.sz) (h1 : 0 < d.sz) (r : Rdb P e d wf) :
    Rdb P t (Kd.slice e d) (fun l => l.length ≤ maxLen ∧ ∀ x ∈ l, wf x) := by
  intro H enc w base spare held fuel cs x h
  rcases DataW.trod_slice ht h with ⟨rfl, _⟩ | ⟨a, len, cap, elems, rest, n, _, rfl, _, hb, hl, hm, hlen, hel, _, _⟩
  · exact ⟨[], ⟨none, 0, rfl, by simp, Kd.C_nil _ _⟩, by simp, by simp⟩
  · have each : ∀ i (y : DataW H × List MemPlace), elems[i]? = some y → ∃ b : α, ∃ c, w.cells? base (a.add (i * P.cellsOf e)) (P.cellsOf e) = some c ∧ d.K w b c ∧ wf b := by
      intro i y hy
      have hi : i < len := by have := (List.getElem?_eq_some_iff.1 hy).1; omega
      have h2 := hel i hi
      rw [hy, Option.bind_eq_some_iff] at h2
      obtain ⟨c, hcs, htr⟩ := h2
      obtain ⟨b, hK, hw⟩ := r H enc w base spare held n c y htr
      exact ⟨b, c, hcs, hK, hw⟩
    obtain ⟨xs, hx1, hx2⟩ := list_choose (R := fun i _ (b : α) => ∃ c, w.cells? base (a.add (i * P.cellsOf e)) (P.cellsOf e) = some c ∧ d.K w b c ∧ wf b) len elems hlen each
    have get : ∀ i b, xs[i]? = some b → ∃ c, w.cells? base (a.add (i * P.cellsOf e)) (P.cellsOf e) = some c ∧ d.K w b c ∧ wf b := by
      intro i b hb'
      have hi : i < elems.length := by have := (List.getElem?_eq_some_iff.1 hb').1; omega
      exact hx2 i _ b (List.getElem?_eq_getElem hi) hb'
    refine ⟨xs, ⟨some a, cap, by rw [hx1], by omega, ?_⟩, by omega, fun b hb' => ?_⟩
    · refine ⟨rfl, by rw [hx1]; unfold maxLen at hm; omega, fun hp => ⟨a, rfl, fun j b hj => ?_⟩⟩
      obtain ⟨c, hcs, hK, _⟩ := get j b hj
      obtain ⟨_, hcl, hcell⟩ := World.cells?_some hcs
      refine ⟨c, by rw [hcl, hc], hK, fun i u hu => ?_⟩
      have hi : i < P.cellsOf e := by have := (List.getElem?_eq_some_iff.1 hu).1; omega
      have := hcell i hi
      rw [hu] at this
      rw [Addr.add_add] at this
      rw [← hc]
      exact this
    · obtain ⟨i, hi⟩ := List.mem_iff_getElem?.1 hb'
      obtain ⟨_, _, _, hw⟩ := get i b hi
      exact hw
theorem Rdb.struct2 {α β : Type} {P : Program} {t : TypeId} {f0 f1 : Field} {d0 : Kd α} {d1 : Kd β} {w0 : α → Prop} {w1 : β → Prop} (ht : P.underlying t = some (.struct #[f0, f1])) (o0 : f0.offset = 0) (o1 : f1.offset = P.cellsOf f0.type) (cT : P.cellsOf t = P.cellsOf f0.type + P.cellsOf f1.type)
    (r0 : Rdb P f0.type d0 w0) (r1 : Rdb P f1.type d1 w1) : Rdb P t (Kd.pair d0 d1) (fun x => w0 x.1 ∧ w1 x.2) := by
  intro H enc w base spare held fuel cs x h
  obtain ⟨y0, y1, n, _, hl, h0, h1⟩ := ChangeShapes.trod_struct2 ht h
  rw [o0, List.drop_zero] at h0
  rw [o1, List.take_of_length_le (by rw [List.length_drop, hl, cT]; omega)] at h1
  obtain ⟨a, hK0, hw0⟩ := r0 H enc w base spare held n _ y0 h0
  obtain ⟨b, hK1, hw1⟩ := r1 H enc w base spare held n _ y1 h1
  exact ⟨(a, b), ⟨_, _, (List.take_append_drop _ _).symm, hK0, hK1⟩, hw0, hw1⟩
theorem Rdb.struct3 {α β γ : Type} {P : Program} {t : TypeId} {f0 f1 f2 : Field} {d0 : Kd α} {d1 : Kd β} {d2 : Kd γ} {w0 : α → Prop} {w1 : β → Prop} {w2 : γ → Prop} (ht : P.underlying t = some (.struct #[f0, f1, f2])) (o0 : f0.offset = 0) (o1 : f1.offset = P.cellsOf f0.type)
    (o2 : f2.offset = P.cellsOf f0.type + P.cellsOf f1.type) (cT : P.cellsOf t = P.cellsOf f0.type + P.cellsOf f1.type + P.cellsOf f2.type)
    (r0 : Rdb P f0.type d0 w0) (r1 : Rdb P f1.type d1 w1) (r2 : Rdb P f2.type d2 w2) : Rdb P t (Kd.pair d0 (Kd.pair d1 d2)) (fun x => w0 x.1 ∧ w1 x.2.1 ∧ w2 x.2.2) := by
  intro H enc w base spare held fuel cs x h
  obtain ⟨xs, n, _, _, hl, hxl, hf⟩ := DataW.trod_struct ht h
  match xs, hxl with
  | [y0, y1, y2], _ =>
    have h0 : DataW.trod enc P w base spare held n f0.type ((cs.drop f0.offset).take (P.cellsOf f0.type)) = some y0 := by simpa using hf 0 f0 rfl
    have h1 : DataW.trod enc P w base spare held n f1.type ((cs.drop f1.offset).take (P.cellsOf f1.type)) = some y1 := by simpa using hf 1 f1 rfl
    have h2 : DataW.trod enc P w base spare held n f2.type ((cs.drop f2.offset).take (P.cellsOf f2.type)) = some y2 := by simpa using hf 2 f2 rfl
    rw [o0, List.drop_zero] at h0
    rw [o1] at h1
    rw [o2, List.take_of_length_le (by rw [List.length_drop, hl, cT]; omega)] at h2
    obtain ⟨a, hK0, hw0⟩ := r0 H enc w base spare held n _ y0 h0
    obtain ⟨b, hK1, hw1⟩ := r1 H enc w base spare held n _ y1 h1
    obtain ⟨c, hK2, hw2⟩ := r2 H enc w base spare held n _ y2 h2
    refine ⟨(a, b, c), ⟨_, _, (List.take_append_drop (P.cellsOf f0.type) cs).symm, hK0, _, _, ?_, hK1, hK2⟩, hw0, hw1, hw2⟩
    rw [← List.drop_drop, List.take_append_drop]
theorem Rdb.iso {α β : Type} {P : Program} {t : TypeId} {d : Kd α} {wf : α → Prop} (r : Rdb P t d wf) (f : β → α) (g : α → β) (hfg : ∀ a, f (g a) = a) : Rdb P t (Kd.iso d f) (fun b => wf (f b)) := by
  intro H enc w base spare held fuel cs x h
  obtain ⟨a, hK, hw⟩ := r H enc w base spare held fuel cs x h
  exact ⟨g a, by show d.K w (f (g a)) cs; rw [hfg]; exact hK, by show wf (f (g a)); rw [hfg]; exact hw⟩
theorem Rdb.of {α : Type} {P : Program} {t : TypeId} {d : Kd α} {wf : α → Prop} (r : Rdb P t d wf) {H : Type} {enc : TypeId × Value → H} {w : World} {base : Nat} {spare : Nat → Bool} {held : Bool} {v : Value} {x : DataW H} {ps : List MemPlace}
    (h : DataW.Trod enc P w base spare held t v x ps) : ∃ a : α, d.K w a v.cells.toList ∧ wf a := by
  obtain ⟨fuel, hf⟩ := h
  exact r H enc w base spare held fuel _ _ hf

end Go.Proofs.Ytiancdhpdjmacaa.F
