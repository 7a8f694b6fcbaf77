/-
  No cell of these rows narrows 'for every input' (looked for: loops, veiled, ifaces, maps, wideKeys, modest, calm, conditions, laid).
  DERIVED. THE GIVEN ROWS OF THIS SEAT. 12 by the template 'for every input the law returns true; each argument reads behind the call as it read before'; 0 by the template 'total and deterministic' (their statements: YtiancdhpdjmacaaTotals.lean).
  GIVEN WITH THE SEED: the statements are not yours to turn. If you find one false, say at which input.
  Laid BY PROGRAM, IN A SANDBOX (cutbox-rows.mjs): the forced cells as the released guide's own fill.sh prints them over the translation 18b90669a4f3aadf… (all of the seat's roots in one cut). By AI agents, Wed Nov 11 2026. No macro, syntax, notation, axiom, sorry.
-/
import Derived.Test.YtiancdhpdjmacaaChecked
import GoSem.Claim
import GoSem.ClaimJoined
import GoSem.ClaimMapViews
import Derived.JoinedTies
import Derived.KernelRfl
namespace Go.Proofs.Ytiancdhpdjmacaa
/- THE CELL 'sum', in the pinned program and in every row, IS THE sha256 OF THE DUMP (.gsa) THAT YtiancdhpdjmacaaProg.lean LOADS. Nothing in Lean hashes anything: it is a label: what it is worth is what the hold of that sum in a sandbox is worth. -/
noncomputable def Try.pinned : Pinned := { name := "ytiancdhpdjmacaa", sum := "18b90669a4f3aadf4259ce7c00ecd5c84ed8fec4fb46a4fdaba35ce2606fd919", checked := Try.checked }
namespace Rows
def none {H : Type} : Left H := { results := [], args := [] }

/-- 'laws.FnExactPlacementsOf': WHATEVER THE INPUT: true; the input reads as it did. -/
def fnExactPlacementsOfSpec : ChangeSpec := { name := "fnExactPlacementsOf", fn := fun _ => fun
  | [d1, d2] => { results := [.lit (.bool true)], args := [d1, d2] }
  | _ => none }
def fnExactPlacementsOfRow : OpenClaim := { program := "ytiancdhpdjmacaa", sum := "18b90669a4f3aadf4259ce7c00ecd5c84ed8fec4fb46a4fdaba35ce2606fd919", func := "loop.example/g01388/laws.FnExactPlacementsOf", spec := "fnExactPlacementsOf", recurses := true, apart := false }
def FnExactPlacementsOfSaid : Prop := fnExactPlacementsOfRow.holds Try.pinned (OpenSpec.ofChange fnExactPlacementsOfSpec)

/-- ITS FALSE NEIGHBOUR: 'it returns false'. Refute it at one input. -/
def fnExactPlacementsOfWrong : ChangeSpec := { name := "fnExactPlacementsOf", fn := fun _ => fun
  | [d1, d2] => { results := [.lit (.bool false)], args := [d1, d2] }
  | _ => none }
def FnExactPlacementsOfWrongFalsely : Prop := fnExactPlacementsOfRow.holds Try.pinned (OpenSpec.ofChange fnExactPlacementsOfWrong)

/-- 'laws.FnExactIsFleet': WHATEVER THE INPUT: true; the input reads as it did. -/
def fnExactIsFleetSpec : ChangeSpec := { name := "fnExactIsFleet", fn := fun _ => fun
  | [d1, d2] => { results := [.lit (.bool true)], args := [d1, d2] }
  | _ => none }
def fnExactIsFleetRow : OpenClaim := { program := "ytiancdhpdjmacaa", sum := "18b90669a4f3aadf4259ce7c00ecd5c84ed8fec4fb46a4fdaba35ce2606fd919", func := "loop.example/g01388/laws.FnExactIsFleet", spec := "fnExactIsFleet", unfollowed := true, recurses := true, apart := false }
def FnExactIsFleetSaid : Prop := fnExactIsFleetRow.holds Try.pinned (OpenSpec.ofChange fnExactIsFleetSpec)

/-- ITS FALSE NEIGHBOUR: 'it returns false'. Refute it at one input. -/
def fnExactIsFleetWrong : ChangeSpec := { name := "fnExactIsFleet", fn := fun _ => fun
  | [d1, d2] => { results := [.lit (.bool false)], args := [d1, d2] }
  | _ => none }
def FnExactIsFleetWrongFalsely : Prop := fnExactIsFleetRow.holds Try.pinned (OpenSpec.ofChange fnExactIsFleetWrong)

/-- 'laws.FnExactCountFleets': WHATEVER THE INPUT: true; the input reads as it did. -/
def fnExactCountFleetsSpec : ChangeSpec := { name := "fnExactCountFleets", fn := fun _ => fun
  | [d] => { results := [.lit (.bool true)], args := [d] }
  | _ => none }
def fnExactCountFleetsRow : OpenClaim := { program := "ytiancdhpdjmacaa", sum := "18b90669a4f3aadf4259ce7c00ecd5c84ed8fec4fb46a4fdaba35ce2606fd919", func := "loop.example/g01388/laws.FnExactCountFleets", spec := "fnExactCountFleets", unfollowed := true, recurses := true, apart := false }
def FnExactCountFleetsSaid : Prop := fnExactCountFleetsRow.holds Try.pinned (OpenSpec.ofChange fnExactCountFleetsSpec)

/-- ITS FALSE NEIGHBOUR: 'it returns false'. Refute it at one input. -/
def fnExactCountFleetsWrong : ChangeSpec := { name := "fnExactCountFleets", fn := fun _ => fun
  | [d] => { results := [.lit (.bool false)], args := [d] }
  | _ => none }
def FnExactCountFleetsWrongFalsely : Prop := fnExactCountFleetsRow.holds Try.pinned (OpenSpec.ofChange fnExactCountFleetsWrong)

/-- 'laws.FnExactFleetList': WHATEVER THE INPUT: true; the input reads as it did. -/
def fnExactFleetListSpec : ChangeSpec := { name := "fnExactFleetList", fn := fun _ => fun
  | [d] => { results := [.lit (.bool true)], args := [d] }
  | _ => none }
def fnExactFleetListRow : OpenClaim := { program := "ytiancdhpdjmacaa", sum := "18b90669a4f3aadf4259ce7c00ecd5c84ed8fec4fb46a4fdaba35ce2606fd919", func := "loop.example/g01388/laws.FnExactFleetList", spec := "fnExactFleetList", unfollowed := true, recurses := true, apart := false }
def FnExactFleetListSaid : Prop := fnExactFleetListRow.holds Try.pinned (OpenSpec.ofChange fnExactFleetListSpec)

/-- ITS FALSE NEIGHBOUR: 'it returns false'. Refute it at one input. -/
def fnExactFleetListWrong : ChangeSpec := { name := "fnExactFleetList", fn := fun _ => fun
  | [d] => { results := [.lit (.bool false)], args := [d] }
  | _ => none }
def FnExactFleetListWrongFalsely : Prop := fnExactFleetListRow.holds Try.pinned (OpenSpec.ofChange fnExactFleetListWrong)

/-- 'laws.FnExactCellsOfFleet': WHATEVER THE INPUT: true; the input reads as it did. -/
def fnExactCellsOfFleetSpec : ChangeSpec := { name := "fnExactCellsOfFleet", fn := fun _ => fun
  | [d1, d2] => { results := [.lit (.bool true)], args := [d1, d2] }
  | _ => none }
def fnExactCellsOfFleetRow : OpenClaim := { program := "ytiancdhpdjmacaa", sum := "18b90669a4f3aadf4259ce7c00ecd5c84ed8fec4fb46a4fdaba35ce2606fd919", func := "loop.example/g01388/laws.FnExactCellsOfFleet", spec := "fnExactCellsOfFleet", unfollowed := true, recurses := true, apart := false }
def FnExactCellsOfFleetSaid : Prop := fnExactCellsOfFleetRow.holds Try.pinned (OpenSpec.ofChange fnExactCellsOfFleetSpec)

/-- ITS FALSE NEIGHBOUR: 'it returns false'. Refute it at one input. -/
def fnExactCellsOfFleetWrong : ChangeSpec := { name := "fnExactCellsOfFleet", fn := fun _ => fun
  | [d1, d2] => { results := [.lit (.bool false)], args := [d1, d2] }
  | _ => none }
def FnExactCellsOfFleetWrongFalsely : Prop := fnExactCellsOfFleetRow.holds Try.pinned (OpenSpec.ofChange fnExactCellsOfFleetWrong)

/-- 'laws.FnExactAnswersOf': WHATEVER THE INPUT: true; the input reads as it did. -/
def fnExactAnswersOfSpec : ChangeSpec := { name := "fnExactAnswersOf", fn := fun _ => fun
  | [d1, d2, d3] => { results := [.lit (.bool true)], args := [d1, d2, d3] }
  | _ => none }
def fnExactAnswersOfRow : OpenClaim := { program := "ytiancdhpdjmacaa", sum := "18b90669a4f3aadf4259ce7c00ecd5c84ed8fec4fb46a4fdaba35ce2606fd919", func := "loop.example/g01388/laws.FnExactAnswersOf", spec := "fnExactAnswersOf", unfollowed := true, recurses := true, apart := false }
def FnExactAnswersOfSaid : Prop := fnExactAnswersOfRow.holds Try.pinned (OpenSpec.ofChange fnExactAnswersOfSpec)

/-- ITS FALSE NEIGHBOUR: 'it returns false'. Refute it at one input. -/
def fnExactAnswersOfWrong : ChangeSpec := { name := "fnExactAnswersOf", fn := fun _ => fun
  | [d1, d2, d3] => { results := [.lit (.bool false)], args := [d1, d2, d3] }
  | _ => none }
def FnExactAnswersOfWrongFalsely : Prop := fnExactAnswersOfRow.holds Try.pinned (OpenSpec.ofChange fnExactAnswersOfWrong)

/-- 'laws.FnExactFleetText': WHATEVER THE INPUT: true; the input reads as it did. -/
def fnExactFleetTextSpec : ChangeSpec := { name := "fnExactFleetText", fn := fun _ => fun
  | [d1, d2] => { results := [.lit (.bool true)], args := [d1, d2] }
  | _ => none }
def fnExactFleetTextRow : OpenClaim := { program := "ytiancdhpdjmacaa", sum := "18b90669a4f3aadf4259ce7c00ecd5c84ed8fec4fb46a4fdaba35ce2606fd919", func := "loop.example/g01388/laws.FnExactFleetText", spec := "fnExactFleetText", inPlace := ["internal/abi.NoEscape", "internal/bytealg.MakeNoZero"], unfollowed := true, recurses := true, apart := false }
def FnExactFleetTextSaid : Prop := fnExactFleetTextRow.holds Try.pinned (OpenSpec.ofChange fnExactFleetTextSpec)

/-- ITS FALSE NEIGHBOUR: 'it returns false'. Refute it at one input. -/
def fnExactFleetTextWrong : ChangeSpec := { name := "fnExactFleetText", fn := fun _ => fun
  | [d1, d2] => { results := [.lit (.bool false)], args := [d1, d2] }
  | _ => none }
def FnExactFleetTextWrongFalsely : Prop := fnExactFleetTextRow.holds Try.pinned (OpenSpec.ofChange fnExactFleetTextWrong)

/-- 'laws.FnExactAgrees': WHATEVER THE INPUT: true; the input reads as it did. -/
def fnExactAgreesSpec : ChangeSpec := { name := "fnExactAgrees", fn := fun _ => fun
  | [d1, d2, d3] => { results := [.lit (.bool true)], args := [d1, d2, d3] }
  | _ => none }
def fnExactAgreesRow : OpenClaim := { program := "ytiancdhpdjmacaa", sum := "18b90669a4f3aadf4259ce7c00ecd5c84ed8fec4fb46a4fdaba35ce2606fd919", func := "loop.example/g01388/laws.FnExactAgrees", spec := "fnExactAgrees", unfollowed := true, recurses := true, apart := false }
def FnExactAgreesSaid : Prop := fnExactAgreesRow.holds Try.pinned (OpenSpec.ofChange fnExactAgreesSpec)

/-- ITS FALSE NEIGHBOUR: 'it returns false'. Refute it at one input. -/
def fnExactAgreesWrong : ChangeSpec := { name := "fnExactAgrees", fn := fun _ => fun
  | [d1, d2, d3] => { results := [.lit (.bool false)], args := [d1, d2, d3] }
  | _ => none }
def FnExactAgreesWrongFalsely : Prop := fnExactAgreesRow.holds Try.pinned (OpenSpec.ofChange fnExactAgreesWrong)

/-- 'laws.FnExactCountAgreeing': WHATEVER THE INPUT: true; the input reads as it did. -/
def fnExactCountAgreeingSpec : ChangeSpec := { name := "fnExactCountAgreeing", fn := fun _ => fun
  | [d1, d2] => { results := [.lit (.bool true)], args := [d1, d2] }
  | _ => none }
def fnExactCountAgreeingRow : OpenClaim := { program := "ytiancdhpdjmacaa", sum := "18b90669a4f3aadf4259ce7c00ecd5c84ed8fec4fb46a4fdaba35ce2606fd919", func := "loop.example/g01388/laws.FnExactCountAgreeing", spec := "fnExactCountAgreeing", unfollowed := true, recurses := true, apart := false }
def FnExactCountAgreeingSaid : Prop := fnExactCountAgreeingRow.holds Try.pinned (OpenSpec.ofChange fnExactCountAgreeingSpec)

/-- ITS FALSE NEIGHBOUR: 'it returns false'. Refute it at one input. -/
def fnExactCountAgreeingWrong : ChangeSpec := { name := "fnExactCountAgreeing", fn := fun _ => fun
  | [d1, d2] => { results := [.lit (.bool false)], args := [d1, d2] }
  | _ => none }
def FnExactCountAgreeingWrongFalsely : Prop := fnExactCountAgreeingRow.holds Try.pinned (OpenSpec.ofChange fnExactCountAgreeingWrong)

/-- 'laws.FnExactSharesOf': WHATEVER THE INPUT: true; the input reads as it did. -/
def fnExactSharesOfSpec : ChangeSpec := { name := "fnExactSharesOf", fn := fun _ => fun
  | [d1, d2] => { results := [.lit (.bool true)], args := [d1, d2] }
  | _ => none }
def fnExactSharesOfRow : OpenClaim := { program := "ytiancdhpdjmacaa", sum := "18b90669a4f3aadf4259ce7c00ecd5c84ed8fec4fb46a4fdaba35ce2606fd919", func := "loop.example/g01388/laws.FnExactSharesOf", spec := "fnExactSharesOf", unfollowed := true, recurses := true, apart := false }
def FnExactSharesOfSaid : Prop := fnExactSharesOfRow.holds Try.pinned (OpenSpec.ofChange fnExactSharesOfSpec)

/-- ITS FALSE NEIGHBOUR: 'it returns false'. Refute it at one input. -/
def fnExactSharesOfWrong : ChangeSpec := { name := "fnExactSharesOf", fn := fun _ => fun
  | [d1, d2] => { results := [.lit (.bool false)], args := [d1, d2] }
  | _ => none }
def FnExactSharesOfWrongFalsely : Prop := fnExactSharesOfRow.holds Try.pinned (OpenSpec.ofChange fnExactSharesOfWrong)

/-- 'laws.FnExactBestCell': WHATEVER THE INPUT: true; the input reads as it did. -/
def fnExactBestCellSpec : ChangeSpec := { name := "fnExactBestCell", fn := fun _ => fun
  | [d1, d2] => { results := [.lit (.bool true)], args := [d1, d2] }
  | _ => none }
def fnExactBestCellRow : OpenClaim := { program := "ytiancdhpdjmacaa", sum := "18b90669a4f3aadf4259ce7c00ecd5c84ed8fec4fb46a4fdaba35ce2606fd919", func := "loop.example/g01388/laws.FnExactBestCell", spec := "fnExactBestCell", unfollowed := true, recurses := true, apart := false }
def FnExactBestCellSaid : Prop := fnExactBestCellRow.holds Try.pinned (OpenSpec.ofChange fnExactBestCellSpec)

/-- ITS FALSE NEIGHBOUR: 'it returns false'. Refute it at one input. -/
def fnExactBestCellWrong : ChangeSpec := { name := "fnExactBestCell", fn := fun _ => fun
  | [d1, d2] => { results := [.lit (.bool false)], args := [d1, d2] }
  | _ => none }
def FnExactBestCellWrongFalsely : Prop := fnExactBestCellRow.holds Try.pinned (OpenSpec.ofChange fnExactBestCellWrong)

/-- 'laws.FnExactCertainCells': WHATEVER THE INPUT: true; the input reads as it did. -/
def fnExactCertainCellsSpec : ChangeSpec := { name := "fnExactCertainCells", fn := fun _ => fun
  | [d1, d2] => { results := [.lit (.bool true)], args := [d1, d2] }
  | _ => none }
def fnExactCertainCellsRow : OpenClaim := { program := "ytiancdhpdjmacaa", sum := "18b90669a4f3aadf4259ce7c00ecd5c84ed8fec4fb46a4fdaba35ce2606fd919", func := "loop.example/g01388/laws.FnExactCertainCells", spec := "fnExactCertainCells", unfollowed := true, recurses := true, apart := false }
def FnExactCertainCellsSaid : Prop := fnExactCertainCellsRow.holds Try.pinned (OpenSpec.ofChange fnExactCertainCellsSpec)

/-- ITS FALSE NEIGHBOUR: 'it returns false'. Refute it at one input. -/
def fnExactCertainCellsWrong : ChangeSpec := { name := "fnExactCertainCells", fn := fun _ => fun
  | [d1, d2] => { results := [.lit (.bool false)], args := [d1, d2] }
  | _ => none }
def FnExactCertainCellsWrongFalsely : Prop := fnExactCertainCellsRow.holds Try.pinned (OpenSpec.ofChange fnExactCertainCellsWrong)

/- THE SECOND FORM. 'bulk': how many values and letters a reading holds, each counted each time it is reached (what is shared counts as often as it is met; a slice's spare places count too). A statement '..UptoSaid' is the law's where the arguments, and the package variables that the reading takes, are together of bulk at most 1048576: NARROWER than '..Said'. Prove '..Said' where nothing that the law and all that it calls make is longer than what came in: it says more and counts as full. Else prove '..UptoSaid'. A law counts once. -/
mutual
def uptoBulk {H : Type} : DataW H → Nat
  | .lit (.string bytes) => bytes.length + 1
  | .lit _ => 1
  | .nil => 1
  | .ptr d => uptoBulk d + 1
  | .slice elems spare => uptoBulkAll elems + uptoBulkAll spare + 1
  | .agg parts => uptoBulkAll parts + 1
  | .iface _ d => uptoBulk d + 1
  | .map entries => uptoBulkEntries entries + 1
  | .held _ => 1
def uptoBulkAll {H : Type} : List (DataW H) → Nat
  | [] => 0
  | d :: r => uptoBulk d + uptoBulkAll r
def uptoBulkEntries {H : Type} : List (Lit × DataW H) → Nat
  | [] => 0
  | x :: r => uptoBulkEntry x + uptoBulkEntries r
def uptoBulkEntry {H : Type} : Lit × DataW H → Nat
  | (.string bytes, d) => bytes.length + uptoBulk d + 1
  | (_, d) => uptoBulk d + 1
 end
def uptoSmall : (H : Type) → List (DataW H) → Bool := fun _ ds => decide (uptoBulkAll ds ≤ 1048576)
def OpenSpec.upto (s : _root_.Go.ChangeSpec) : _root_.Go.OpenSpec := { _root_.Go.OpenSpec.ofChange s with cond := some uptoSmall }

/-- 'laws.FnExactPlacementsOf', WHERE WHAT IT READS IS OF BULK AT MOST 1048576: true; the input reads as it did. -/
def fnExactPlacementsOfUptoRow : OpenClaim := { program := "ytiancdhpdjmacaa", sum := "18b90669a4f3aadf4259ce7c00ecd5c84ed8fec4fb46a4fdaba35ce2606fd919", func := "loop.example/g01388/laws.FnExactPlacementsOf", spec := "fnExactPlacementsOf", recurses := true, apart := false, narrowed := true }
def FnExactPlacementsOfUptoSaid : Prop := fnExactPlacementsOfUptoRow.holds Try.pinned (OpenSpec.upto fnExactPlacementsOfSpec)

/-- 'laws.FnExactIsFleet', WHERE WHAT IT READS IS OF BULK AT MOST 1048576: true; the input reads as it did. -/
def fnExactIsFleetUptoRow : OpenClaim := { program := "ytiancdhpdjmacaa", sum := "18b90669a4f3aadf4259ce7c00ecd5c84ed8fec4fb46a4fdaba35ce2606fd919", func := "loop.example/g01388/laws.FnExactIsFleet", spec := "fnExactIsFleet", unfollowed := true, recurses := true, apart := false, narrowed := true }
def FnExactIsFleetUptoSaid : Prop := fnExactIsFleetUptoRow.holds Try.pinned (OpenSpec.upto fnExactIsFleetSpec)

/-- 'laws.FnExactCountFleets', WHERE WHAT IT READS IS OF BULK AT MOST 1048576: true; the input reads as it did. -/
def fnExactCountFleetsUptoRow : OpenClaim := { program := "ytiancdhpdjmacaa", sum := "18b90669a4f3aadf4259ce7c00ecd5c84ed8fec4fb46a4fdaba35ce2606fd919", func := "loop.example/g01388/laws.FnExactCountFleets", spec := "fnExactCountFleets", unfollowed := true, recurses := true, apart := false, narrowed := true }
def FnExactCountFleetsUptoSaid : Prop := fnExactCountFleetsUptoRow.holds Try.pinned (OpenSpec.upto fnExactCountFleetsSpec)

/-- 'laws.FnExactFleetList', WHERE WHAT IT READS IS OF BULK AT MOST 1048576: true; the input reads as it did. -/
def fnExactFleetListUptoRow : OpenClaim := { program := "ytiancdhpdjmacaa", sum := "18b90669a4f3aadf4259ce7c00ecd5c84ed8fec4fb46a4fdaba35ce2606fd919", func := "loop.example/g01388/laws.FnExactFleetList", spec := "fnExactFleetList", unfollowed := true, recurses := true, apart := false, narrowed := true }
def FnExactFleetListUptoSaid : Prop := fnExactFleetListUptoRow.holds Try.pinned (OpenSpec.upto fnExactFleetListSpec)

/-- 'laws.FnExactCellsOfFleet', WHERE WHAT IT READS IS OF BULK AT MOST 1048576: true; the input reads as it did. -/
def fnExactCellsOfFleetUptoRow : OpenClaim := { program := "ytiancdhpdjmacaa", sum := "18b90669a4f3aadf4259ce7c00ecd5c84ed8fec4fb46a4fdaba35ce2606fd919", func := "loop.example/g01388/laws.FnExactCellsOfFleet", spec := "fnExactCellsOfFleet", unfollowed := true, recurses := true, apart := false, narrowed := true }
def FnExactCellsOfFleetUptoSaid : Prop := fnExactCellsOfFleetUptoRow.holds Try.pinned (OpenSpec.upto fnExactCellsOfFleetSpec)

/-- 'laws.FnExactAnswersOf', WHERE WHAT IT READS IS OF BULK AT MOST 1048576: true; the input reads as it did. -/
def fnExactAnswersOfUptoRow : OpenClaim := { program := "ytiancdhpdjmacaa", sum := "18b90669a4f3aadf4259ce7c00ecd5c84ed8fec4fb46a4fdaba35ce2606fd919", func := "loop.example/g01388/laws.FnExactAnswersOf", spec := "fnExactAnswersOf", unfollowed := true, recurses := true, apart := false, narrowed := true }
def FnExactAnswersOfUptoSaid : Prop := fnExactAnswersOfUptoRow.holds Try.pinned (OpenSpec.upto fnExactAnswersOfSpec)

/-- 'laws.FnExactFleetText', WHERE WHAT IT READS IS OF BULK AT MOST 1048576: true; the input reads as it did. -/
def fnExactFleetTextUptoRow : OpenClaim := { program := "ytiancdhpdjmacaa", sum := "18b90669a4f3aadf4259ce7c00ecd5c84ed8fec4fb46a4fdaba35ce2606fd919", func := "loop.example/g01388/laws.FnExactFleetText", spec := "fnExactFleetText", inPlace := ["internal/abi.NoEscape", "internal/bytealg.MakeNoZero"], unfollowed := true, recurses := true, apart := false, narrowed := true }
def FnExactFleetTextUptoSaid : Prop := fnExactFleetTextUptoRow.holds Try.pinned (OpenSpec.upto fnExactFleetTextSpec)

/-- 'laws.FnExactAgrees', WHERE WHAT IT READS IS OF BULK AT MOST 1048576: true; the input reads as it did. -/
def fnExactAgreesUptoRow : OpenClaim := { program := "ytiancdhpdjmacaa", sum := "18b90669a4f3aadf4259ce7c00ecd5c84ed8fec4fb46a4fdaba35ce2606fd919", func := "loop.example/g01388/laws.FnExactAgrees", spec := "fnExactAgrees", unfollowed := true, recurses := true, apart := false, narrowed := true }
def FnExactAgreesUptoSaid : Prop := fnExactAgreesUptoRow.holds Try.pinned (OpenSpec.upto fnExactAgreesSpec)

/-- 'laws.FnExactCountAgreeing', WHERE WHAT IT READS IS OF BULK AT MOST 1048576: true; the input reads as it did. -/
def fnExactCountAgreeingUptoRow : OpenClaim := { program := "ytiancdhpdjmacaa", sum := "18b90669a4f3aadf4259ce7c00ecd5c84ed8fec4fb46a4fdaba35ce2606fd919", func := "loop.example/g01388/laws.FnExactCountAgreeing", spec := "fnExactCountAgreeing", unfollowed := true, recurses := true, apart := false, narrowed := true }
def FnExactCountAgreeingUptoSaid : Prop := fnExactCountAgreeingUptoRow.holds Try.pinned (OpenSpec.upto fnExactCountAgreeingSpec)

/-- 'laws.FnExactSharesOf', WHERE WHAT IT READS IS OF BULK AT MOST 1048576: true; the input reads as it did. -/
def fnExactSharesOfUptoRow : OpenClaim := { program := "ytiancdhpdjmacaa", sum := "18b90669a4f3aadf4259ce7c00ecd5c84ed8fec4fb46a4fdaba35ce2606fd919", func := "loop.example/g01388/laws.FnExactSharesOf", spec := "fnExactSharesOf", unfollowed := true, recurses := true, apart := false, narrowed := true }
def FnExactSharesOfUptoSaid : Prop := fnExactSharesOfUptoRow.holds Try.pinned (OpenSpec.upto fnExactSharesOfSpec)

/-- 'laws.FnExactBestCell', WHERE WHAT IT READS IS OF BULK AT MOST 1048576: true; the input reads as it did. -/
def fnExactBestCellUptoRow : OpenClaim := { program := "ytiancdhpdjmacaa", sum := "18b90669a4f3aadf4259ce7c00ecd5c84ed8fec4fb46a4fdaba35ce2606fd919", func := "loop.example/g01388/laws.FnExactBestCell", spec := "fnExactBestCell", unfollowed := true, recurses := true, apart := false, narrowed := true }
def FnExactBestCellUptoSaid : Prop := fnExactBestCellUptoRow.holds Try.pinned (OpenSpec.upto fnExactBestCellSpec)

/-- 'laws.FnExactCertainCells', WHERE WHAT IT READS IS OF BULK AT MOST 1048576: true; the input reads as it did. -/
def fnExactCertainCellsUptoRow : OpenClaim := { program := "ytiancdhpdjmacaa", sum := "18b90669a4f3aadf4259ce7c00ecd5c84ed8fec4fb46a4fdaba35ce2606fd919", func := "loop.example/g01388/laws.FnExactCertainCells", spec := "fnExactCertainCells", unfollowed := true, recurses := true, apart := false, narrowed := true }
def FnExactCertainCellsUptoSaid : Prop := fnExactCertainCellsUptoRow.holds Try.pinned (OpenSpec.upto fnExactCertainCellsSpec)

end Rows
end Go.Proofs.Ytiancdhpdjmacaa
