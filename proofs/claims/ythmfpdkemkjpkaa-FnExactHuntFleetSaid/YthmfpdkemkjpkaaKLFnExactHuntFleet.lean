-- written by the session's program xp.py over the kit's print program
import Derived.Test.YthmfpdkemkjpkaaRows
import Derived.Test.YthmfpdkemkjpkaaKFnExactHuntFleet8
import Derived.Test.YthmfpdkemkjpkaaKPFnExactHuntFleet
import Derived.WalkKit
import Derived.ProofKit
import Derived.OpenShut
import Derived.ShutString
import Derived.ChangeOld
import Derived.Below
import Derived.SizedLaws
namespace Go.Proofs.Ythmfpdkemkjpkaa.fnExactHuntFleet
open Go.ChangeShapes Go.WideShapes Go.ChangeAt Go.RowKit Go.Proofs.Ythmfpdkemkjpkaa.F Go.Proofs.YthmfpdkemkjpkaaW.PrintWords Go.Proofs.YthmfpdkemkjpkaaW.PrintLast Go.Proofs.YthmfpdkemkjpkaaW.PrintMore
open Go.ChangeMaps (open_string shut_string)
set_option linter.unusedVariables false
set_option linter.unusedSimpArgs false
theorem own : ownKnob Try.prog.godebug = none := by kernel_rfl
theorem laidOut : laidOutB Try.prog = true := by kernel_rfl
theorem opens0 : Rdb Try.prog 24 (Kd.pair (Kd.int .i64) (Kd.pair (Kd.int .i64) (Kd.slice 2 (Kd.int .i64)))) (fun x_ : ((Int) × (Int) × (List Int)) => ((Lit.int .i64 x_.1).wf = true ∧ (Lit.int .i64 x_.2.1).wf = true ∧ (x_.2.2.length ≤ maxLen ∧ ∀ y3_ ∈ x_.2.2, (Lit.int .i64 y3_).wf = true))) := (Rdb.struct3 Try.underlying24 (by kernel_rfl) (by kernel_rfl) (by kernel_rfl) (by kernel_rfl) (Rdb.int Try.underlying2) (Rdb.int Try.underlying2) (Rdb.slice Try.underlying22 (by kernel_rfl) (by decide) (Rdb.int Try.underlying2)))
theorem opens1 : Rdb Try.prog 22 (Kd.slice 2 (Kd.int .i64)) (fun x_ : (List Int) => (x_.length ≤ maxLen ∧ ∀ y4_ ∈ x_, (Lit.int .i64 y4_).wf = true)) := (Rdb.slice Try.underlying22 (by kernel_rfl) (by decide) (Rdb.int Try.underlying2))
set_option maxRecDepth 100000 in
theorem lifted (os : Os) (started : os.Started) (H : Type) (enc : TypeId × Value → H) :
    ReturnsInHanded {} Try.checked os 3 .any (Rows.fnExactHuntFleetSpec.pre6 enc Try.prog Try.f3 Rows.fnExactHuntFleetRow.domain false) (Rows.fnExactHuntFleetSpec.post enc Try.prog Try.f3 false true false false) := by
  refine returnsInHanded_of_change_sized (C := Try.checked) own started (by kernel_rfl) Try.func3
    (ChangeSpec.witness6 (enc := enc) (C := Try.checked) false ⟨#[], #[.agg #[.int .i64 0, .int .i64 0, .slice none 0 0], .slice none 0 0], []⟩ 8 (by kernel_rfl) (by kernel_rfl) (by kernel_rfl) (by kernel_rfl)) ?_
  intro W base args ds gs before hval0 hW hcnd hsz0 _
  have hval : ∀ (j : Nat) t v, Try.f3.params[j]? = some t → args[j]? = some v → Value.okWide Try.prog W .any base t v := hval0
  have hW' := hW
  obtain ⟨p, q, hA0, hV, rfl, hfz, hnd⟩ := hW
  have hA : DataW.TrodAll enc Try.prog W 0 (fun _ => true) true Try.f3.params.toList args.toList ds p := hA0
  rw [Try.params3] at hA hval
  obtain ⟨v0, vs0, d0, ds0, p0, q0, hargs, rfl, rfl, h0, r0⟩ := trodAll_cons hA
  obtain ⟨v1, vs1, d1, ds1, p1, q1, rfl, rfl, rfl, h1, r1⟩ := trodAll_cons r0
  obtain ⟨rfl, rfl, rfl⟩ := trodAll_nil r1
  obtain rfl : args = #[v0, v1] := by cases args; simp_all
  obtain ⟨rfl, rfl⟩ := trodVars_none hV
  have k0 := h0
  have lt0 : ∀ x ∈ p0, x.block < W.heap.size := by obtain ⟨m, hm⟩ := k0; exact DataW.trod_lt m _ _ _ hm
  obtain ⟨a0, hK0, hw0⟩ := opens0.of h0
  obtain ⟨c0zhK0, c1zhK0, ezhK0, hK0l, hK0r⟩ := hK0
  obtain ⟨hw0l, hw0r⟩ := hw0
  obtain ⟨c0zhK0r, c1zhK0r, ezhK0r, hK0rl, hK0rr⟩ := hK0r
  obtain ⟨hw0rl, hw0rr⟩ := hw0r
  obtain ⟨AhK0rr, chK0rr, ehK0rr, hlhK0rr, hChK0rr⟩ := hK0rr
  obtain ⟨cs0, rfl, _⟩ := okWide_struct Try.underlying24 (hval 0 24 v0 rfl rfl)
  obtain rfl : cs0 = #[.int .i64 a0.1, .int .i64 a0.2.1, .slice AhK0rr a0.2.2.length chK0rr] := by
    apply Array.toList_inj.1
    have e_ := ezhK0
    simp_all [Value.cells, Kd.int, Kd.bool, Kd.string, Kd.scalar]
  have k1 := h1
  have lt1 : ∀ x ∈ p1, x.block < W.heap.size := by obtain ⟨m, hm⟩ := k1; exact DataW.trod_lt m _ _ _ hm
  obtain ⟨a1, hK1, hw1⟩ := opens1.of h1
  obtain ⟨AhK1, chK1, ehK1, hlhK1, hChK1⟩ := hK1
  obtain rfl : v1 = .slice AhK1 a1.length chK1 := by
    obtain ⟨x_, y_, z_, rfl⟩ := okWide_slice Try.underlying22 (hval 1 22 v1 rfl rfl)
    simpa [Value.cells] using ehK1
  obtain ⟨k, hk⟩ := Pure.FnExactHuntFleet a0.1 a0.2.1 a0.2.2 a1 hw0l hw0rl hw0rr hw1
  refine (laws_FnExactHuntFleet.calls k a0.1 a0.2.1 _ _ a0.2.2 _ _ a1 true W hChK0rr hlhK0rr hChK1 hlhK1 hk).mono fun e W' ⟨he, hd⟩ => ?_
  have bel : Below W.heap.size W W' := hd
  subst he
  exact ⟨_, rfl, _, _, _, [], _, [], hW', trodAll_mk1 (shut_bool Try.underlying4 _), (trodAll_cons_mk (Below.trod laidOut (by kernel_rfl) (of_decide_eq_true (by kernel_rfl)) k0 bel lt0) (trodAll_cons_mk (Below.trod laidOut (by kernel_rfl) (of_decide_eq_true (by kernel_rfl)) k1 bel lt1) trodAll_mk0)), rfl, bel.frame _, fun h => by cases h⟩
theorem over : Rows.fnExactHuntFleetRow.holds Try.pinned (OpenSpec.ofChange Rows.fnExactHuntFleetSpec) :=
  OpenClaim.holds_of_wide 3 Try.f3 rfl rfl rfl rfl rfl rfl rfl ⟨rfl, rfl, rfl, rfl, rfl⟩ rfl rfl rfl rfl rfl (by kernel_rfl) Try.func3 (by kernel_rfl)
    (of_decide_eq_true (by kernel_rfl)) (by unfold Func.isWrapper; first | (rw [if_pos (by decide +kernel)]; kernel_rfl) | (rw [if_neg (by decide +kernel)]; exact ⟨rfl, rfl⟩))
    (fun os started H enc _ => lifted os started H enc)
theorem proved : Rows.FnExactHuntFleetSaid := over
#print axioms proved
end Go.Proofs.Ythmfpdkemkjpkaa.fnExactHuntFleet
namespace Go.Proofs.Ythmfpdkemkjpkaa
/-- The row, under a short name, for the claim. -/
theorem fnExactHuntFleet_holds : Rows.FnExactHuntFleetSaid := fnExactHuntFleet.proved
end Go.Proofs.Ythmfpdkemkjpkaa
