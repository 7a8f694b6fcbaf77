-- written by the session's program xp.py over the kit's print program
import Derived.Test.YtcjeccohlmmfoaaDoorRows
import Derived.Test.YtcjeccohlmmfoaaDoorTie
import Derived.Test.YtcjeccohlmmfoaaDoorCards
import Derived.Lay
import Derived.LaidMore
import Derived.SevenTiedAt
import Derived.Stop.Joined
import Derived.Test.YtcjeccohlmmfoaaDoorKFnExactPlayState5
import Derived.Test.YtcjeccohlmmfoaaDoorKPFnExactPlayState
import Derived.WalkKit
import Derived.ProofKit
import Derived.OpenShut
import Derived.ShutString
import Derived.ChangeOld
import Derived.Below
import Derived.SizedLaws
namespace Go.Proofs.YtcjeccohlmmfoaaDoor.fnExactPlayState
open Go.ChangeShapes Go.WideShapes Go.ChangeAt Go.RowKit Go.Proofs.YtcjeccohlmmfoaaDoor.F Go.Proofs.YtcjeccohlmmfoaaDoorW.PrintWords Go.Proofs.YtcjeccohlmmfoaaDoorW.PrintLast Go.Proofs.YtcjeccohlmmfoaaDoorW.PrintMore
open Go.ChangeMaps (open_string shut_string)
set_option linter.unusedVariables false
set_option linter.unusedSimpArgs false
theorem own : ownKnob Tryd.prog.godebug = none := by kernel_rfl
theorem laidOut : laidOutB Tryd.prog = true := by kernel_rfl
def LAID : List (String × DataW Unit) := [("unicode/utf8.acceptRanges", Rows.laid_unicode_utf8_acceptRanges), ("unicode/utf8.first", Rows.laid_unicode_utf8_first)]
theorem opens0 : Rdb Tryd.prog 24 (Kd.pair (Kd.int .i64) (Kd.slice 38 (Kd.slice 2 (Kd.int .i64)))) (fun x_ : ((Int) × (List (List Int))) => ((Lit.int .i64 x_.1).wf = true ∧ (x_.2.length ≤ maxLen ∧ ∀ y17_ ∈ x_.2, (y17_.length ≤ maxLen ∧ ∀ y18_ ∈ y17_, (Lit.int .i64 y18_).wf = true)))) := (Rdb.struct2 Tryd.underlying24 (by kernel_rfl) (by kernel_rfl) (by kernel_rfl) (Rdb.int Tryd.underlying2) (Rdb.slice Tryd.underlying22 (by kernel_rfl) (by decide) (Rdb.slice Tryd.underlying38 (by kernel_rfl) (by decide) (Rdb.int Tryd.underlying2))))
theorem opens1 : Rdb Tryd.prog 9 Kd.string (fun x_ : (ByteArray) => x_.size ≤ maxLen) := (Rdb.string Tryd.underlying9)
theorem opens2 : Rdb Tryd.prog 4 Kd.bool (fun x_ : (Bool) => True) := (Rdb.bool Tryd.underlying4)
set_option maxRecDepth 100000 in
theorem lifted (os : Os) (started : os.Started) (H : Type) (enc : TypeId × Value → H) :
    ReturnsInHanded {} Tryd.checked os 6 .any (fun w args => (Rows.fnExactPlayStateSpec.pre enc Tryd.prog Tryd.f6 [] false w args ∧ laidMetH Tryd.prog LAID w) ∧ sizedMet enc Tryd.prog Tryd.f6 (OpenSpec.ofChange Rows.fnExactPlayStateSpec) false w args) (Rows.fnExactPlayStateSpec.post enc Tryd.prog Tryd.f6 false true false false) := by
  refine returnsInHanded_of_change_and (C := Tryd.checked) (X := fun w _ => laidMetH Tryd.prog LAID w) (fun _ _ _ hh h => h.of_heap hh) own started (by kernel_rfl) Tryd.func6
    (ChangeSpec.witness_shaped (enc := enc) (C := Tryd.checked) (os := os) (X := fun w _ => laidMetH Tryd.prog LAID w) false (World.laidAll Tryd.prog os LAID) #[.agg #[.int .i64 0, .slice none 0 0], .string ByteArray.empty, .bool false] 8 (World.laidAll_os _ _ _)
      (World.shaped_of_ZipB (by kernel_rfl) (by kernel_rfl)) (by kernel_rfl) (by kernel_rfl) (by kernel_rfl)
      (by rw [MakeChecks.laidMetH_plain _ _ _ (by kernel_rfl)]; exact laidMet_laidAll _ (by kernel_rfl) (by kernel_rfl))) ?_
  intro W base args ds gs before hval0 hW _ _ hL _
  have hval : ∀ (j : Nat) t v, Tryd.f6.params[j]? = some t → args[j]? = some v → Value.okWide Tryd.prog W .any base t v := hval0
  have hW' := hW
  obtain ⟨p, q, hA0, hV, rfl, hfz, hnd⟩ := hW
  have hA : DataW.TrodAll enc Tryd.prog W 0 (fun _ => true) true Tryd.f6.params.toList args.toList ds p := hA0
  rw [Tryd.params6] at hA hval
  obtain ⟨v0, vs0, d0, ds0, p0, q0, hargs, rfl, rfl, h0, r0⟩ := trodAll_cons hA
  obtain ⟨v1, vs1, d1, ds1, p1, q1, rfl, rfl, rfl, h1, r1⟩ := trodAll_cons r0
  obtain ⟨v2, vs2, d2, ds2, p2, q2, rfl, rfl, rfl, h2, r2⟩ := trodAll_cons r1
  obtain ⟨rfl, rfl, rfl⟩ := trodAll_nil r2
  obtain rfl : args = #[v0, v1, v2] := by cases args; simp_all
  obtain ⟨rfl, rfl⟩ := trodVars_none hV
  have k0 := h0
  have lt0 : ∀ x ∈ p0, x.block < W.heap.size := by obtain ⟨m, hm⟩ := k0; exact DataW.trod_lt m _ _ _ hm
  obtain ⟨a0, hK0, hw0⟩ := opens0.of h0
  obtain ⟨c0zhK0, c1zhK0, ezhK0, hK0l, hK0r⟩ := hK0
  obtain ⟨hw0l, hw0r⟩ := hw0
  obtain ⟨AhK0r, chK0r, ehK0r, hlhK0r, hChK0r⟩ := hK0r
  obtain ⟨cs0, rfl, _⟩ := okWide_struct Tryd.underlying24 (hval 0 24 v0 rfl rfl)
  obtain rfl : cs0 = #[.int .i64 a0.1, .slice AhK0r a0.2.length chK0r] := by
    apply Array.toList_inj.1
    have e_ := ezhK0
    simp_all [Value.cells, Kd.int, Kd.bool, Kd.string, Kd.scalar]
  have k1 := h1
  have lt1 : ∀ x ∈ p1, x.block < W.heap.size := by obtain ⟨m, hm⟩ := k1; exact DataW.trod_lt m _ _ _ hm
  obtain ⟨a1, hK1, hw1⟩ := opens1.of h1
  obtain rfl : v1 = .string a1 := by
    obtain ⟨x_, rfl⟩ := okWide_string Tryd.underlying9 (hval 1 9 v1 rfl rfl)
    simpa [Value.cells, Kd.string, Kd.scalar] using hK1
  have k2 := h2
  have lt2 : ∀ x ∈ p2, x.block < W.heap.size := by obtain ⟨m, hm⟩ := k2; exact DataW.trod_lt m _ _ _ hm
  obtain ⟨a2, hK2, hw2⟩ := opens2.of h2
  obtain rfl : v2 = .bool a2 := by
    obtain ⟨x_, rfl, _⟩ := open_bool Tryd.underlying4 (hval 2 4 v2 rfl rfl) h2
    simpa [Value.cells, Kd.int, Kd.bool, Kd.scalar] using hK2
  obtain ⟨k, hk⟩ := Pure.FnExactPlayState a0.1 a0.2 a1 a2 hw0l hw0r hw1
  refine (laws_FnExactPlayState.calls k a0.1 _ _ a0.2 a1 a2 true W hChK0r hlhK0r hk).mono fun e W' ⟨he, hd⟩ => ?_
  have bel : Below W.heap.size W W' := hd
  subst he
  exact ⟨_, rfl, _, _, _, [], _, [], hW', trodAll_mk1 (shut_bool Tryd.underlying4 _), (trodAll_cons_mk (Below.trod laidOut (by kernel_rfl) (of_decide_eq_true (by kernel_rfl)) k0 bel lt0) (trodAll_cons_mk (Below.trod laidOut (by kernel_rfl) (of_decide_eq_true (by kernel_rfl)) k1 bel lt1) (trodAll_cons_mk (Below.trod laidOut (by kernel_rfl) (of_decide_eq_true (by kernel_rfl)) k2 bel lt2) trodAll_mk0))), rfl, bel.frame _, fun h => by cases h⟩
theorem over : Rows.fnExactPlayStateRow.holds Tryd.pinned (OpenSpec.ofChange Rows.fnExactPlayStateSpec) :=
  OpenClaim.holds_of_wide 6 Tryd.f6 rfl rfl rfl rfl rfl rfl rfl ⟨rfl, rfl, rfl, rfl, rfl⟩ rfl rfl rfl rfl rfl (by kernel_rfl) Tryd.func6 (by kernel_rfl)
    (of_decide_eq_true (by kernel_rfl)) (by unfold Func.isWrapper; first | (rw [if_pos (by decide +kernel)]; kernel_rfl) | (rw [if_neg (by decide +kernel)]; exact ⟨rfl, rfl⟩))
    (fun os started H enc _ => lifted os started H enc)
theorem card : Claim7.holds Tryd.pinned (.plain (OpenSpec.ofChange Rows.fnExactPlayStateSpec)) Rows.fnExactPlayStateCard :=
  Claim7.holds_tied_plain_at .later [] [.data, .pinned] true (true, "a58bddea560803fdec15c4bfc44ec20482a71ccaf5bc2ba7eb3d2e520494279a") false over (fun _ h => by cases h) (by kernel_rfl) (fun _ h => by cases h) fnExactPlayState_row_tie rfl ⟨rfl, rfl⟩ (by kernel_rfl) rfl
    (fun f fn hf hfn => by
      obtain rfl : f = 6 := Option.some.inj ((show Tryd.prog.funcNamed "loop.example/g01388/laws.FnExactPlayState" = some 6 by kernel_rfl).symm.trans hf) |>.symm
      obtain rfl : fn = Tryd.f6 := (Option.some.inj (Tryd.func6.symm.trans hfn)).symm
      exact ⟨by kernel_rfl, fun j t ht => by
        rw [Tryd.params6] at ht
        have hm : t ∈ [24, 9, 4] := by simpa using Array.mem_of_getElem? ht
        have hall : ([24, 9, 4].all fun u => !Tryd.prog.wantsStandIn u) = true := by kernel_rfl
        exact (show Tryd.prog.wantsStandIn t = false by simpa using List.all_eq_true.1 hall t hm)⟩)
    (by kernel_rfl)
theorem proved : Rows.FnExactPlayStateCardSaid := card
#print axioms proved
end Go.Proofs.YtcjeccohlmmfoaaDoor.fnExactPlayState
namespace Go.Proofs.YtcjeccohlmmfoaaDoor
/-- The row, under a short name, for the claim. -/
theorem fnExactPlayState_holds : Rows.FnExactPlayStateCardSaid := fnExactPlayState.proved
end Go.Proofs.YtcjeccohlmmfoaaDoor
