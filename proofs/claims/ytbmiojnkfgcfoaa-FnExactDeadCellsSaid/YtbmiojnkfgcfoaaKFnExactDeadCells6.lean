-- written by the session's program xp.py over the kit's print program, and by hand; texts joined by pack.py
import Derived.Test.YtbmiojnkfgcfoaaKFnExactDeadCells5
namespace Go.Proofs.Ytbmiojnkfgcfoaa.F
open Go.RowKit Go.Proofs.YtbmiojnkfgcfoaaW.PrintWords Go.Proofs.YtbmiojnkfgcfoaaW.PrintLast Go.Proofs.YtbmiojnkfgcfoaaW.PrintMore
attribute [local go_sem] max2_int min2_int max_two min_two max_three min_three max_four min_four   -- for this text's walks alone
set_option linter.unusedVariables false
set_option linter.unusedSimpArgs false

/-- A type's readings as data are values of a kind: what an argument of that type is, whatever it holds. -/
def Rdb {α : Type} (P : Program) (t : TypeId) (d : Kd α) (wf : α → Prop) : Prop :=
  ∀ (H : Type) (enc : TypeId × Value → H) (w : World) (base : Nat) (spare : Nat → Bool) (held : Bool) (fuel : Nat) (cs : List Value) (x : DataW H × List MemPlace),
    DataW.trod enc P w base spare held fuel t cs = some x → ∃ a : α, d.K w a cs ∧ wf a
theorem Rdb.int {P : Program} {t : TypeId} {k : IntKind} (ht : P.underlying t = some (.int k)) : Rdb P t (Kd.int k) (fun n => (Lit.int k n).wf = true) := by
  intro H enc w base spare held fuel cs x h
  obtain ⟨n, rfl, _, hw⟩ := DataW.trod_int ht h
  exact ⟨n, rfl, hw⟩
theorem Rdb.bool {P : Program} {t : TypeId} (ht : P.underlying t = some .bool) : Rdb P t Kd.bool (fun _ => True) := by
  intro H enc w base spare held fuel cs x h
  obtain ⟨n, rfl, _⟩ := DataW.trod_bool ht h
  exact ⟨n, rfl, trivial⟩
theorem Rdb.string {P : Program} {t : TypeId} (ht : P.underlying t = some .string) : Rdb P t Kd.string (fun s => s.size ≤ maxLen) := by
  intro H enc w base spare held fuel cs x h
  obtain ⟨s, rfl, _, hs⟩ := DataW.trod_string ht h
  exact ⟨s, rfl, hs⟩
theorem list_choose {α β : Type} {R : Nat → α → β → Prop} : ∀ (n : Nat) (xs : List α), xs.length = n → (∀ i x, xs[i]? = some x → ∃ y, R i x y) → ∃ ys : List β, ys.length = n ∧ ∀ i x y, xs[i]? = some x → ys[i]? = some y → R i x y := by
  intro n xs
  induction xs generalizing n R with
  | nil =>
    intro hl _
    exact ⟨[], by simpa using hl, by intro i x y h; simp at h⟩
  | cons x xs ih =>
    intro hl h
    obtain ⟨y, hy⟩ := h 0 x rfl
    obtain ⟨ys, h1, h2⟩ := ih (R := fun i a b => R (i + 1) a b) (n - 1) (by simp at hl; omega) (fun i a hi => h (i + 1) a (by simpa using hi))
    refine ⟨y :: ys, by simp at hl ⊢; omega, fun i a b ha hb => ?_⟩
    cases i with
    | zero =>
      simp at ha hb
      subst ha hb
      exact hy
    | succ i => exact h2 i a b (by simpa using ha) (by simpa using hb)
theorem Rdb.slice {α : Type} {P : Program} {t e : TypeId} {d : Kd α} {wf : α → Prop} (ht : P.underlying t = some (.slice e)) (hc : P.cellsOf e = d.sz) (h1 : 0 < d.sz) (r : Rdb P e d wf) :
    Rdb P t (Kd.slice e d) (fun l => l.length ≤ maxLen ∧ ∀ x ∈ l, wf x) := by
  intro H enc w base spare held fuel cs x h
  rcases DataW.trod_slice ht h with ⟨rfl, _⟩ | ⟨a, len, cap, elems, rest, n, _, rfl, _, hb, hl, hm, hlen, hel, _, _⟩
  · exact ⟨[], ⟨none, 0, rfl, by simp, Kd.C_nil _ _⟩, by simp, by simp⟩
  · have each : ∀ i (y : DataW H × List MemPlace), elems[i]? = some y → ∃ b : α, ∃ c, w.cells? base (a.add (i * P.cellsOf e)) (P.cellsOf e) = some c ∧ d.K w b c ∧ wf b := by
      intro i y hy
      have hi : i < len := by have := (List.getElem?_eq_some_iff.1 hy).1; omega
      have h2 := hel i hi
      rw [hy, Option.bind_eq_some_iff] at h2
      obtain ⟨c, hcs, htr⟩ := h2
      obtain ⟨b, hK, hw⟩ := r H enc w base spare held n c y htr
      exact ⟨b, c, hcs, hK, hw⟩
    obtain ⟨xs, hx1, hx2⟩ := list_choose (R := fun i _ (b : α) => ∃ c, w.cells? base (a.add (i * P.cellsOf e)) (P.cellsOf e) = some c ∧ d.K w b c ∧ wf b) len elems hlen each
    have get : ∀ i b, xs[i]? = some b → ∃ c, w.cells? base (a.add (i * P.cellsOf e)) (P.cellsOf e) = some c ∧ d.K w b c ∧ wf b := by
      intro i b hb'
      have hi : i < elems.length := by have := (List.getElem?_eq_some_iff.1 hb').1; omega
      exact hx2 i _ b (List.getElem?_eq_getElem hi) hb'
    refine ⟨xs, ⟨some a, cap, by rw [hx1], by omega, ?_⟩, by omega, fun b hb' => ?_⟩
    · refine ⟨rfl, by rw [hx1]; unfold maxLen at hm; omega, fun hp => ⟨a, rfl, fun j b hj => ?_⟩⟩
      obtain ⟨c, hcs, hK, _⟩ := get j b hj
      obtain ⟨_, hcl, hcell⟩ := World.cells?_some hcs
      refine ⟨c, by rw [hcl, hc], hK, fun i u hu => ?_⟩
      have hi : i < P.cellsOf e := by have := (List.getElem?_eq_some_iff.1 hu).1; omega
      have := hcell i hi
      rw [hu] at this
      rw [Addr.add_add] at this
      rw [← hc]
      exact this
    · obtain ⟨i, hi⟩ := List.mem_iff_getElem?.1 hb'
      obtain ⟨_, _, _, hw⟩ := get i b hi
      exact hw
theorem Rdb.struct2 {α β : Type} {P : Program} {t : TypeId} {f0 f1 : Field} {d0 : Kd α} {d1 : Kd β} {w0 : α → Prop} {w1 : β → Prop} (ht : P.underlying t = some (.struct #[f0, f1])) (o0 : f0.offset = 0) (o1 : f1.offset = P.cellsOf f0.type) (cT : P.cellsOf t = P.cellsOf f0.type + P.cellsOf f1.type)
    (r0 : Rdb P f0.type d0 w0) (r1 : Rdb P f1.type d1 w1) : Rdb P t (Kd.pair d0 d1) (fun x => w0 x.1 ∧ w1 x.2) := by
  intro H enc w base spare held fuel cs x h
  obtain ⟨y0, y1, n, _, hl, h0, h1⟩ := ChangeShapes.trod_struct2 ht h
  rw [o0, List.drop_zero] at h0
  rw [o1, List.take_of_length_le (by rw [List.length_drop, hl, cT]; omega)] at h1
  obtain ⟨a, hK0, hw0⟩ := r0 H enc w base spare held n _ y0 h0
  obtain ⟨b, hK1, hw1⟩ := r1 H enc w base spare held n _ y1 h1
  exact ⟨(a, b), ⟨_, _, (List.take_append_drop _ _).symm, hK0, hK1⟩, hw0, hw1⟩
theorem Rdb.iso {α β : Type} {P : Program} {t : TypeId} {d : Kd α} {wf : α → Prop} (r : Rdb P t d wf) (f : β → α) (g : α → β) (hfg : ∀ a, f (g a) = a) : Rdb P t (Kd.iso d f) (fun b => wf (f b)) := by
  intro H enc w base spare held fuel cs x h
  obtain ⟨a, hK, hw⟩ := r H enc w base spare held fuel cs x h
  exact ⟨g a, by show d.K w (f (g a)) cs; rw [hfg]; exact hK, by show wf (f (g a)); rw [hfg]; exact hw⟩
theorem Rdb.of {α : Type} {P : Program} {t : TypeId} {d : Kd α} {wf : α → Prop} (r : Rdb P t d wf) {H : Type} {enc : TypeId × Value → H} {w : World} {base : Nat} {spare : Nat → Bool} {held : Bool} {v : Value} {x : DataW H} {ps : List MemPlace}
    (h : DataW.Trod enc P w base spare held t v x ps) : ∃ a : α, d.K w a v.cells.toList ∧ wf a := by
  obtain ⟨fuel, hf⟩ := h
  exact r H enc w base spare held fuel _ _ hf

end Go.Proofs.Ytbmiojnkfgcfoaa.F
