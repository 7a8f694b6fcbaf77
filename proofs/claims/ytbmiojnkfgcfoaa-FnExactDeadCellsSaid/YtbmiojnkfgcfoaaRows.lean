/-
  No cell of these rows narrows 'for every input' (looked for: loops, veiled, ifaces, maps, wideKeys, modest, calm, conditions, laid).
  DERIVED. THE GIVEN ROWS OF THIS SEAT. 4 by the template 'for every input the law returns true; each argument reads behind the call as it read before'; 0 by the template 'total and deterministic' (their statements: YtbmiojnkfgcfoaaTotals.lean).
  GIVEN WITH THE SEED: the statements are not yours to turn. If you find one false, say at which input.
  Laid BY PROGRAM, IN A SANDBOX (cutbox-rows.mjs): the forced cells as the released guide's own fill.sh prints them over the translation 718b255f8638edbf… (all of the seat's roots in one cut). By AI agents, Wed Nov 11 2026. No macro, syntax, notation, axiom, sorry.
-/
import Derived.Test.YtbmiojnkfgcfoaaChecked
import GoSem.Claim
import GoSem.ClaimJoined
import GoSem.ClaimMapViews
import Derived.JoinedTies
import Derived.KernelRfl
namespace Go.Proofs.Ytbmiojnkfgcfoaa
/- THE CELL 'sum', in the pinned program and in every row, IS THE sha256 OF THE DUMP (.gsa) THAT YtbmiojnkfgcfoaaProg.lean LOADS. Nothing in Lean hashes anything: it is a label: what it is worth is what the hold of that sum in a sandbox is worth. -/
noncomputable def Try.pinned : Pinned := { name := "ytbmiojnkfgcfoaa", sum := "718b255f8638edbf8a4781adb8feb0a9a649763d2b2af479accdc27dd64aaf73", checked := Try.checked }
namespace Rows
def none {H : Type} : Left H := { results := [], args := [] }

/-- 'laws.FnExactDeadCells': WHATEVER THE INPUT: true; the input reads as it did. -/
def fnExactDeadCellsSpec : ChangeSpec := { name := "fnExactDeadCells", fn := fun _ => fun
  | [d] => { results := [.lit (.bool true)], args := [d] }
  | _ => none }
def fnExactDeadCellsRow : OpenClaim := { program := "ytbmiojnkfgcfoaa", sum := "718b255f8638edbf8a4781adb8feb0a9a649763d2b2af479accdc27dd64aaf73", func := "loop.example/g01388/laws.FnExactDeadCells", spec := "fnExactDeadCells", unfollowed := true, recurses := true, apart := false }
def FnExactDeadCellsSaid : Prop := fnExactDeadCellsRow.holds Try.pinned (OpenSpec.ofChange fnExactDeadCellsSpec)

/-- ITS FALSE NEIGHBOUR: 'it returns false'. Refute it at one input. -/
def fnExactDeadCellsWrong : ChangeSpec := { name := "fnExactDeadCells", fn := fun _ => fun
  | [d] => { results := [.lit (.bool false)], args := [d] }
  | _ => none }
def FnExactDeadCellsWrongFalsely : Prop := fnExactDeadCellsRow.holds Try.pinned (OpenSpec.ofChange fnExactDeadCellsWrong)

/-- 'laws.FnExactMakeSproutMove': WHATEVER THE INPUT: true; the input reads as it did. -/
def fnExactMakeSproutMoveSpec : ChangeSpec := { name := "fnExactMakeSproutMove", fn := fun _ => fun
  | [d1, d2] => { results := [.lit (.bool true)], args := [d1, d2] }
  | _ => none }
def fnExactMakeSproutMoveRow : OpenClaim := { program := "ytbmiojnkfgcfoaa", sum := "718b255f8638edbf8a4781adb8feb0a9a649763d2b2af479accdc27dd64aaf73", func := "loop.example/g01388/laws.FnExactMakeSproutMove", spec := "fnExactMakeSproutMove", unfollowed := true, recurses := true, apart := false }
def FnExactMakeSproutMoveSaid : Prop := fnExactMakeSproutMoveRow.holds Try.pinned (OpenSpec.ofChange fnExactMakeSproutMoveSpec)

/-- ITS FALSE NEIGHBOUR: 'it returns false'. Refute it at one input. -/
def fnExactMakeSproutMoveWrong : ChangeSpec := { name := "fnExactMakeSproutMove", fn := fun _ => fun
  | [d1, d2] => { results := [.lit (.bool false)], args := [d1, d2] }
  | _ => none }
def FnExactMakeSproutMoveWrongFalsely : Prop := fnExactMakeSproutMoveRow.holds Try.pinned (OpenSpec.ofChange fnExactMakeSproutMoveWrong)

/-- 'laws.FnHex': WHATEVER THE INPUT: true; the input reads as it did. -/
def fnHexSpec : ChangeSpec := { name := "fnHex", fn := fun _ => fun
  | [d] => { results := [.lit (.bool true)], args := [d] }
  | _ => none }
def fnHexRow : OpenClaim := { program := "ytbmiojnkfgcfoaa", sum := "718b255f8638edbf8a4781adb8feb0a9a649763d2b2af479accdc27dd64aaf73", func := "loop.example/g01388/laws.FnHex", spec := "fnHex", unfollowed := true, recurses := true, apart := false }
def FnHexSaid : Prop := fnHexRow.holds Try.pinned (OpenSpec.ofChange fnHexSpec)

/-- ITS FALSE NEIGHBOUR: 'it returns false'. Refute it at one input. -/
def fnHexWrong : ChangeSpec := { name := "fnHex", fn := fun _ => fun
  | [d] => { results := [.lit (.bool false)], args := [d] }
  | _ => none }
def FnHexWrongFalsely : Prop := fnHexRow.holds Try.pinned (OpenSpec.ofChange fnHexWrong)

/-- 'laws.FnExactPlaySprouts': WHATEVER THE INPUT: true; the input reads as it did. -/
def fnExactPlaySproutsSpec : ChangeSpec := { name := "fnExactPlaySprouts", fn := fun _ => fun
  | [d1, d2] => { results := [.lit (.bool true)], args := [d1, d2] }
  | _ => none }
def fnExactPlaySproutsRow : OpenClaim := { program := "ytbmiojnkfgcfoaa", sum := "718b255f8638edbf8a4781adb8feb0a9a649763d2b2af479accdc27dd64aaf73", func := "loop.example/g01388/laws.FnExactPlaySprouts", spec := "fnExactPlaySprouts", unfollowed := true, recurses := true, apart := false }
def FnExactPlaySproutsSaid : Prop := fnExactPlaySproutsRow.holds Try.pinned (OpenSpec.ofChange fnExactPlaySproutsSpec)

/-- ITS FALSE NEIGHBOUR: 'it returns false'. Refute it at one input. -/
def fnExactPlaySproutsWrong : ChangeSpec := { name := "fnExactPlaySprouts", fn := fun _ => fun
  | [d1, d2] => { results := [.lit (.bool false)], args := [d1, d2] }
  | _ => none }
def FnExactPlaySproutsWrongFalsely : Prop := fnExactPlaySproutsRow.holds Try.pinned (OpenSpec.ofChange fnExactPlaySproutsWrong)

/- THE SECOND FORM. 'bulk': how many values and letters a reading holds, each counted each time it is reached (what is shared counts as often as it is met; a slice's spare places count too). A statement '..UptoSaid' is the law's where the arguments, and the package variables that the reading takes, are together of bulk at most 1048576: NARROWER than '..Said'. Prove '..Said' where nothing that the law and all that it calls make is longer than what came in: it says more and counts as full. Else prove '..UptoSaid'. A law counts once. -/
mutual
def uptoBulk {H : Type} : DataW H → Nat
  | .lit (.string bytes) => bytes.length + 1
  | .lit _ => 1
  | .nil => 1
  | .ptr d => uptoBulk d + 1
  | .slice elems spare => uptoBulkAll elems + uptoBulkAll spare + 1
  | .agg parts => uptoBulkAll parts + 1
  | .iface _ d => uptoBulk d + 1
  | .map entries => uptoBulkEntries entries + 1
  | .held _ => 1
def uptoBulkAll {H : Type} : List (DataW H) → Nat
  | [] => 0
  | d :: r => uptoBulk d + uptoBulkAll r
def uptoBulkEntries {H : Type} : List (Lit × DataW H) → Nat
  | [] => 0
  | x :: r => uptoBulkEntry x + uptoBulkEntries r
def uptoBulkEntry {H : Type} : Lit × DataW H → Nat
  | (.string bytes, d) => bytes.length + uptoBulk d + 1
  | (_, d) => uptoBulk d + 1
 end
def uptoSmall : (H : Type) → List (DataW H) → Bool := fun _ ds => decide (uptoBulkAll ds ≤ 1048576)
def OpenSpec.upto (s : _root_.Go.ChangeSpec) : _root_.Go.OpenSpec := { _root_.Go.OpenSpec.ofChange s with cond := some uptoSmall }

/-- 'laws.FnExactDeadCells', WHERE WHAT IT READS IS OF BULK AT MOST 1048576: true; the input reads as it did. -/
def fnExactDeadCellsUptoRow : OpenClaim := { program := "ytbmiojnkfgcfoaa", sum := "718b255f8638edbf8a4781adb8feb0a9a649763d2b2af479accdc27dd64aaf73", func := "loop.example/g01388/laws.FnExactDeadCells", spec := "fnExactDeadCells", unfollowed := true, recurses := true, apart := false, narrowed := true }
def FnExactDeadCellsUptoSaid : Prop := fnExactDeadCellsUptoRow.holds Try.pinned (OpenSpec.upto fnExactDeadCellsSpec)

/-- 'laws.FnExactMakeSproutMove', WHERE WHAT IT READS IS OF BULK AT MOST 1048576: true; the input reads as it did. -/
def fnExactMakeSproutMoveUptoRow : OpenClaim := { program := "ytbmiojnkfgcfoaa", sum := "718b255f8638edbf8a4781adb8feb0a9a649763d2b2af479accdc27dd64aaf73", func := "loop.example/g01388/laws.FnExactMakeSproutMove", spec := "fnExactMakeSproutMove", unfollowed := true, recurses := true, apart := false, narrowed := true }
def FnExactMakeSproutMoveUptoSaid : Prop := fnExactMakeSproutMoveUptoRow.holds Try.pinned (OpenSpec.upto fnExactMakeSproutMoveSpec)

/-- 'laws.FnHex', WHERE WHAT IT READS IS OF BULK AT MOST 1048576: true; the input reads as it did. -/
def fnHexUptoRow : OpenClaim := { program := "ytbmiojnkfgcfoaa", sum := "718b255f8638edbf8a4781adb8feb0a9a649763d2b2af479accdc27dd64aaf73", func := "loop.example/g01388/laws.FnHex", spec := "fnHex", unfollowed := true, recurses := true, apart := false, narrowed := true }
def FnHexUptoSaid : Prop := fnHexUptoRow.holds Try.pinned (OpenSpec.upto fnHexSpec)

/-- 'laws.FnExactPlaySprouts', WHERE WHAT IT READS IS OF BULK AT MOST 1048576: true; the input reads as it did. -/
def fnExactPlaySproutsUptoRow : OpenClaim := { program := "ytbmiojnkfgcfoaa", sum := "718b255f8638edbf8a4781adb8feb0a9a649763d2b2af479accdc27dd64aaf73", func := "loop.example/g01388/laws.FnExactPlaySprouts", spec := "fnExactPlaySprouts", unfollowed := true, recurses := true, apart := false, narrowed := true }
def FnExactPlaySproutsUptoSaid : Prop := fnExactPlaySproutsUptoRow.holds Try.pinned (OpenSpec.upto fnExactPlaySproutsSpec)

end Rows
end Go.Proofs.Ytbmiojnkfgcfoaa
