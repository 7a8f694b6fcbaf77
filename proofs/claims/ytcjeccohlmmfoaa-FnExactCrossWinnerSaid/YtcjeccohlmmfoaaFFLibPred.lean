-- written by the session's program xp.py over the kit's print program
import Derived.Test.YtcjeccohlmmfoaaF0
import Derived.Deep.LoopGhost
import Derived.Shelf.Abstract
namespace Go.Proofs.Ytcjeccohlmmfoaa.F
open Go.RowKit Go.Proofs.YtcjeccohlmmfoaaW.PrintWords Go.Proofs.YtcjeccohlmmfoaaW.PrintLast Go.Proofs.YtcjeccohlmmfoaaW.PrintMore
attribute [local go_sem] max2_int min2_int max_two min_two max_three min_three max_four min_four   -- for this text's walks alone
set_option linter.unusedVariables false
set_option linter.unusedSimpArgs false

/-- What is asked of a function value handed on: at every x of the kind d that q lets by, in every world in which all that lay in w lies unturned, it answers p x and turns nothing that lay. -/
def PredK {α : Type} (P : Program) (g : Nat) (lb : Array Value) (d : Kd α) (q : α → Prop) (p : α → Bool) (w : World) : Prop :=
  ∀ (W : World) (x : α) (v : Value), q x → d.K W x [v] → Below w.heap.size w W → Calls P g (#[v] ++ lb) W fun e w' => e = .returned (.bool (p x)) ∧ Below W.heap.size W w'
theorem PredK.later {α : Type} {P : Program} {g : Nat} {lb : Array Value} {d : Kd α} {q : α → Prop} {p : α → Bool} {w W : World} (h : PredK P g lb d q p w) (hb : Below w.heap.size w W) : PredK P g lb d q p W :=
  fun W' x v hq hK hb' => h W' x v hq hK (hb.trans (hb'.mono hb.size))
/-- One cell of a row that is read. -/
theorem Kd.C_one {α : Type} {d : Kd α} {w : World} {A : Option Addr} {n : Nat} {xs : List α} (h1 : d.sz = 1) (h : d.C w A n xs) (i : Nat) (hi : i < n) (hl : n = xs.length) :
    ∃ ad v, A = some ad ∧ w.cell? (ad.add i) = some v ∧ d.K w (xs[i]'(by omega)) [v] := by
  have hi' : i < xs.length := by omega
  obtain ⟨ad, c, hA, hc, hK, hcell⟩ := Kd.C_get h (xs[i]'hi') (i : Int) (by omega) (by omega)
  rw [h1] at hc
  match c, hc with
  | [v], _ =>
    refine ⟨ad, v, hA, ?_, ?_⟩
    · have := hcell 0 v rfl
      rw [h1] at this
      simpa using this
    · have e : xs.getD (i : Int).toNat (xs[i]'hi') = xs[i]'hi' := by simp [List.getD_eq_getElem?_getD, List.getElem?_eq_getElem hi']
      rwa [e] at hK
/-- The place of the first hit from i on, or -1. -/
def idxK {α : Type} (p : α → Bool) : List α → Nat → Int
  | [], _ => -1
  | x :: r, i => if p x then (i : Int) else idxK p r (i + 1)
theorem idxK_ge {α : Type} (p : α → Bool) : ∀ (l : List α) (i : Nat), (0 ≤ idxK p l i) ↔ l.any p = true
  | [], i => by simp [idxK]
  | x :: r, i => by
    have ih := idxK_ge p r (i + 1)
    unfold idxK
    cases h : p x
    · simpa [h] using ih
    · simp [h]
theorem idxK_drop {α : Type} (p : α → Bool) (l : List α) (i : Nat) (h : i < l.length) : idxK p (l.drop i) i = if p l[i] then (i : Int) else idxK p (l.drop (i + 1)) (i + 1) := by
  rw [List.drop_eq_getElem_cons h]; rfl
theorem idxK_any {α : Type} (p : α → Bool) (l : List α) : decide (0 ≤ idxK p l 0) = l.any p := by
  have := idxK_ge p l 0
  rw [Bool.eq_iff_iff, decide_eq_true_iff]
  exact this

end Go.Proofs.Ytcjeccohlmmfoaa.F
