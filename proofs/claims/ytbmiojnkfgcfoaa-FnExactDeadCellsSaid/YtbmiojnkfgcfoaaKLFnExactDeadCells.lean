-- written by the session's program xp.py over the kit's print program
import Derived.Test.YtbmiojnkfgcfoaaRows
import Derived.Test.YtbmiojnkfgcfoaaKFnExactDeadCells6
import Derived.Test.YtbmiojnkfgcfoaaKPFnExactDeadCells
import Derived.WalkKit
import Derived.ProofKit
import Derived.OpenShut
import Derived.ShutString
import Derived.ChangeOld
import Derived.Below
import Derived.SizedLaws
namespace Go.Proofs.Ytbmiojnkfgcfoaa.fnExactDeadCells
open Go.ChangeShapes Go.WideShapes Go.ChangeAt Go.RowKit Go.Proofs.Ytbmiojnkfgcfoaa.F Go.Proofs.YtbmiojnkfgcfoaaW.PrintWords Go.Proofs.YtbmiojnkfgcfoaaW.PrintLast Go.Proofs.YtbmiojnkfgcfoaaW.PrintMore
open Go.ChangeMaps (open_string shut_string)
set_option linter.unusedVariables false
set_option linter.unusedSimpArgs false
theorem own : ownKnob Try.prog.godebug = none := by kernel_rfl
theorem laidOut : laidOutB Try.prog = true := by kernel_rfl
theorem opens0 : Rdb Try.prog 24 (Kd.pair (Kd.int .i64) (Kd.slice 2 (Kd.int .i64))) (fun x_ : ((Int) × (List Int)) => ((Lit.int .i64 x_.1).wf = true ∧ (x_.2.length ≤ maxLen ∧ ∀ y2_ ∈ x_.2, (Lit.int .i64 y2_).wf = true))) := (Rdb.struct2 Try.underlying24 (by kernel_rfl) (by kernel_rfl) (by kernel_rfl) (Rdb.int Try.underlying2) (Rdb.slice Try.underlying22 (by kernel_rfl) (by decide) (Rdb.int Try.underlying2)))
set_option maxRecDepth 100000 in
theorem lifted (os : Os) (started : os.Started) (H : Type) (enc : TypeId × Value → H) :
    ReturnsInHanded {} Try.checked os 3 .any (Rows.fnExactDeadCellsSpec.pre6 enc Try.prog Try.f3 Rows.fnExactDeadCellsRow.domain false) (Rows.fnExactDeadCellsSpec.post enc Try.prog Try.f3 false true false false) := by
  refine returnsInHanded_of_change_sized (C := Try.checked) own started (by kernel_rfl) Try.func3
    (ChangeSpec.witness6 (enc := enc) (C := Try.checked) false ⟨#[], #[.agg #[.int .i64 0, .slice none 0 0]], []⟩ 8 (by kernel_rfl) (by kernel_rfl) (by kernel_rfl) (by kernel_rfl)) ?_
  intro W base args ds gs before hval0 hW hcnd hsz0 _
  have hval : ∀ (j : Nat) t v, Try.f3.params[j]? = some t → args[j]? = some v → Value.okWide Try.prog W .any base t v := hval0
  have hW' := hW
  obtain ⟨p, q, hA0, hV, rfl, hfz, hnd⟩ := hW
  have hA : DataW.TrodAll enc Try.prog W 0 (fun _ => true) true Try.f3.params.toList args.toList ds p := hA0
  rw [Try.params3] at hA hval
  obtain ⟨v0, vs0, d0, ds0, p0, q0, hargs, rfl, rfl, h0, r0⟩ := trodAll_cons hA
  obtain ⟨rfl, rfl, rfl⟩ := trodAll_nil r0
  obtain rfl : args = #[v0] := by cases args; simp_all
  obtain ⟨rfl, rfl⟩ := trodVars_none hV
  have k0 := h0
  have lt0 : ∀ x ∈ p0, x.block < W.heap.size := by obtain ⟨m, hm⟩ := k0; exact DataW.trod_lt m _ _ _ hm
  obtain ⟨a0, hK0, hw0⟩ := opens0.of h0
  obtain ⟨c0zhK0, c1zhK0, ezhK0, hK0l, hK0r⟩ := hK0
  obtain ⟨hw0l, hw0r⟩ := hw0
  obtain ⟨AhK0r, chK0r, ehK0r, hlhK0r, hChK0r⟩ := hK0r
  obtain ⟨cs0, rfl, _⟩ := okWide_struct Try.underlying24 (hval 0 24 v0 rfl rfl)
  obtain rfl : cs0 = #[.int .i64 a0.1, .slice AhK0r a0.2.length chK0r] := by
    apply Array.toList_inj.1
    have e_ := ezhK0
    simp_all [Value.cells, Kd.int, Kd.bool, Kd.string, Kd.scalar]
  obtain ⟨k, hk⟩ := Pure.FnExactDeadCells a0.1 a0.2 hw0l hw0r
  refine (laws_FnExactDeadCells.calls k a0.1 _ _ a0.2 true W hChK0r hlhK0r hk).mono fun e W' ⟨he, hd⟩ => ?_
  have bel : Below W.heap.size W W' := hd
  subst he
  exact ⟨_, rfl, _, _, _, [], _, [], hW', trodAll_mk1 (shut_bool Try.underlying4 _), (trodAll_cons_mk (Below.trod laidOut (by kernel_rfl) (of_decide_eq_true (by kernel_rfl)) k0 bel lt0) trodAll_mk0), rfl, bel.frame _, fun h => by cases h⟩
theorem over : Rows.fnExactDeadCellsRow.holds Try.pinned (OpenSpec.ofChange Rows.fnExactDeadCellsSpec) :=
  OpenClaim.holds_of_wide 3 Try.f3 rfl rfl rfl rfl rfl rfl rfl ⟨rfl, rfl, rfl, rfl, rfl⟩ rfl rfl rfl rfl rfl (by kernel_rfl) Try.func3 (by kernel_rfl)
    (of_decide_eq_true (by kernel_rfl)) (by unfold Func.isWrapper; first | (rw [if_pos (by decide +kernel)]; kernel_rfl) | (rw [if_neg (by decide +kernel)]; exact ⟨rfl, rfl⟩))
    (fun os started H enc _ => lifted os started H enc)
theorem proved : Rows.FnExactDeadCellsSaid := over
#print axioms proved
end Go.Proofs.Ytbmiojnkfgcfoaa.fnExactDeadCells
namespace Go.Proofs.Ytbmiojnkfgcfoaa
/-- The row, under a short name, for the claim. -/
theorem fnExactDeadCells_holds : Rows.FnExactDeadCellsSaid := fnExactDeadCells.proved
end Go.Proofs.Ytbmiojnkfgcfoaa
