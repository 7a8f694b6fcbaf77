-- written by the session's program xp.py over the kit's print program
import Derived.Test.YtbmiojnkfgcfoaaDoorRows
import Derived.Test.YtbmiojnkfgcfoaaDoorTie
import Derived.Test.YtbmiojnkfgcfoaaDoorCards
import Derived.Lay
import Derived.LaidMore
import Derived.SevenTiedAt
import Derived.Stop.Joined
import Derived.Test.YtbmiojnkfgcfoaaDoorKFnExactHexMoves6
import Derived.Test.YtbmiojnkfgcfoaaDoorKPFnExactHexMoves
import Derived.WalkKit
import Derived.ProofKit
import Derived.OpenShut
import Derived.ShutString
import Derived.ChangeOld
import Derived.Below
import Derived.SizedLaws
namespace Go.Proofs.YtbmiojnkfgcfoaaDoor.fnExactHexMoves
open Go.ChangeShapes Go.WideShapes Go.ChangeAt Go.RowKit Go.Proofs.YtbmiojnkfgcfoaaDoor.F Go.Proofs.YtbmiojnkfgcfoaaDoorW.PrintWords Go.Proofs.YtbmiojnkfgcfoaaDoorW.PrintLast Go.Proofs.YtbmiojnkfgcfoaaDoorW.PrintMore
open Go.ChangeMaps (open_string shut_string)
set_option linter.unusedVariables false
set_option linter.unusedSimpArgs false
theorem own : ownKnob Tryd.prog.godebug = none := by kernel_rfl
theorem laidOut : laidOutB Tryd.prog = true := by kernel_rfl
def LAID : List (String × DataW Unit) := [("math/bits.deBruijn32tab", Rows.laid_math_bits_deBruijn32tab), ("math/bits.deBruijn64tab", Rows.laid_math_bits_deBruijn64tab), ("internal/strconv.uint64pow10", Rows.laid_internal_strconv_uint64pow10)]
theorem opens0 : Rdb Tryd.prog 24 (Kd.pair (Kd.int .i64) (Kd.slice 2 (Kd.int .i64))) (fun x_ : ((Int) × (List Int)) => ((Lit.int .i64 x_.1).wf = true ∧ (x_.2.length ≤ maxLen ∧ ∀ y4_ ∈ x_.2, (Lit.int .i64 y4_).wf = true))) := (Rdb.struct2 Tryd.underlying24 (by kernel_rfl) (by kernel_rfl) (by kernel_rfl) (Rdb.int Tryd.underlying2) (Rdb.slice Tryd.underlying22 (by kernel_rfl) (by decide) (Rdb.int Tryd.underlying2)))
set_option maxRecDepth 100000 in
theorem lifted (os : Os) (started : os.Started) (H : Type) (enc : TypeId × Value → H) :
    ReturnsInHanded {} Tryd.checked os 4 .any (fun w args => (Rows.fnExactHexMovesSpec.pre enc Tryd.prog Tryd.f4 [] false w args ∧ laidMetH Tryd.prog LAID w) ∧ sizedMet enc Tryd.prog Tryd.f4 (OpenSpec.ofChange Rows.fnExactHexMovesSpec) false w args) (Rows.fnExactHexMovesSpec.post enc Tryd.prog Tryd.f4 false true false false) := by
  refine returnsInHanded_of_change_and (C := Tryd.checked) (X := fun w _ => laidMetH Tryd.prog LAID w) (fun _ _ _ hh h => h.of_heap hh) own started (by kernel_rfl) Tryd.func4
    (ChangeSpec.witness_shaped (enc := enc) (C := Tryd.checked) (os := os) (X := fun w _ => laidMetH Tryd.prog LAID w) false (World.laidAll Tryd.prog os LAID) #[.agg #[.int .i64 0, .slice none 0 0]] 8 (World.laidAll_os _ _ _)
      (World.shaped_of_ZipB (by kernel_rfl) (by kernel_rfl)) (by kernel_rfl) (by kernel_rfl) (by kernel_rfl)
      (by rw [MakeChecks.laidMetH_plain _ _ _ (by kernel_rfl)]; exact laidMet_laidAll _ (by kernel_rfl) (by kernel_rfl))) ?_
  intro W base args ds gs before hval0 hW _ _ hL _
  have hval : ∀ (j : Nat) t v, Tryd.f4.params[j]? = some t → args[j]? = some v → Value.okWide Tryd.prog W .any base t v := hval0
  have hW' := hW
  obtain ⟨p, q, hA0, hV, rfl, hfz, hnd⟩ := hW
  have hA : DataW.TrodAll enc Tryd.prog W 0 (fun _ => true) true Tryd.f4.params.toList args.toList ds p := hA0
  rw [Tryd.params4] at hA hval
  obtain ⟨v0, vs0, d0, ds0, p0, q0, hargs, rfl, rfl, h0, r0⟩ := trodAll_cons hA
  obtain ⟨rfl, rfl, rfl⟩ := trodAll_nil r0
  obtain rfl : args = #[v0] := by cases args; simp_all
  obtain ⟨rfl, rfl⟩ := trodVars_none hV
  have k0 := h0
  have lt0 : ∀ x ∈ p0, x.block < W.heap.size := by obtain ⟨m, hm⟩ := k0; exact DataW.trod_lt m _ _ _ hm
  obtain ⟨a0, hK0, hw0⟩ := opens0.of h0
  obtain ⟨c0zhK0, c1zhK0, ezhK0, hK0l, hK0r⟩ := hK0
  obtain ⟨hw0l, hw0r⟩ := hw0
  obtain ⟨AhK0r, chK0r, ehK0r, hlhK0r, hChK0r⟩ := hK0r
  obtain ⟨cs0, rfl, _⟩ := okWide_struct Tryd.underlying24 (hval 0 24 v0 rfl rfl)
  obtain rfl : cs0 = #[.int .i64 a0.1, .slice AhK0r a0.2.length chK0r] := by
    apply Array.toList_inj.1
    have e_ := ezhK0
    simp_all [Value.cells, Kd.int, Kd.bool, Kd.string, Kd.scalar]
  obtain ⟨k, hk⟩ := Pure.FnExactHexMoves a0.1 a0.2 hw0l hw0r
  refine (laws_FnExactHexMoves.calls k a0.1 _ _ a0.2 true W hChK0r hlhK0r hk).mono fun e W' ⟨he, hd⟩ => ?_
  have bel : Below W.heap.size W W' := hd
  subst he
  exact ⟨_, rfl, _, _, _, [], _, [], hW', trodAll_mk1 (shut_bool Tryd.underlying4 _), (trodAll_cons_mk (Below.trod laidOut (by kernel_rfl) (of_decide_eq_true (by kernel_rfl)) k0 bel lt0) trodAll_mk0), rfl, bel.frame _, fun h => by cases h⟩
theorem over : Rows.fnExactHexMovesRow.holds Tryd.pinned (OpenSpec.ofChange Rows.fnExactHexMovesSpec) :=
  OpenClaim.holds_of_wide 4 Tryd.f4 rfl rfl rfl rfl rfl rfl rfl ⟨rfl, rfl, rfl, rfl, rfl⟩ rfl rfl rfl rfl rfl (by kernel_rfl) Tryd.func4 (by kernel_rfl)
    (of_decide_eq_true (by kernel_rfl)) (by unfold Func.isWrapper; first | (rw [if_pos (by decide +kernel)]; kernel_rfl) | (rw [if_neg (by decide +kernel)]; exact ⟨rfl, rfl⟩))
    (fun os started H enc _ => lifted os started H enc)
theorem card : Claim7.holds Tryd.pinned (.plain (OpenSpec.ofChange Rows.fnExactHexMovesSpec)) Rows.fnExactHexMovesCard :=
  Claim7.holds_tied_plain_at .later [] [.data, .data, .data] true (true, "afecb0ecdadcf3f6dfdb984a6feb58d123a1d2de123b1aa48048ee0231c5eae7") false over (fun _ h => by cases h) (by kernel_rfl) (fun _ h => by cases h) fnExactHexMoves_row_tie rfl ⟨rfl, rfl⟩ (by kernel_rfl) rfl
    (fun f fn hf hfn => by
      obtain rfl : f = 4 := Option.some.inj ((show Tryd.prog.funcNamed "loop.example/g01388/laws.FnExactHexMoves" = some 4 by kernel_rfl).symm.trans hf) |>.symm
      obtain rfl : fn = Tryd.f4 := (Option.some.inj (Tryd.func4.symm.trans hfn)).symm
      exact ⟨by kernel_rfl, fun j t ht => by
        rw [Tryd.params4] at ht
        have hm : t ∈ [24] := by simpa using Array.mem_of_getElem? ht
        have hall : ([24].all fun u => !Tryd.prog.wantsStandIn u) = true := by kernel_rfl
        exact (show Tryd.prog.wantsStandIn t = false by simpa using List.all_eq_true.1 hall t hm)⟩)
    (by kernel_rfl)
theorem proved : Rows.FnExactHexMovesCardSaid := card
#print axioms proved
end Go.Proofs.YtbmiojnkfgcfoaaDoor.fnExactHexMoves
namespace Go.Proofs.YtbmiojnkfgcfoaaDoor
/-- The row, under a short name, for the claim. -/
theorem fnExactHexMoves_holds : Rows.FnExactHexMovesCardSaid := fnExactHexMoves.proved
end Go.Proofs.YtbmiojnkfgcfoaaDoor
