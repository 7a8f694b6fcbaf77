/-
  No cell of these rows narrows 'for every input' (looked for: loops, veiled, ifaces, maps, wideKeys, modest, calm, conditions, laid).
  DERIVED. THE GIVEN ROWS OF THIS SEAT. 7 by the template 'for every input the law returns true; each argument reads behind the call as it read before'; 0 by the template 'total and deterministic' (their statements: YtcjeccohlmmfoaaTotals.lean).
  GIVEN WITH THE SEED: the statements are not yours to turn. If you find one false, say at which input.
  Laid BY PROGRAM, IN A SANDBOX (cutbox-rows.mjs): the forced cells as the released guide's own fill.sh prints them over the translation 5b433e66cf12ecf2… (all of the seat's roots in one cut). By AI agents, Wed Nov 11 2026. No macro, syntax, notation, axiom, sorry.
-/
import Derived.Test.YtcjeccohlmmfoaaChecked
import GoSem.Claim
import GoSem.ClaimJoined
import GoSem.ClaimMapViews
import Derived.JoinedTies
import Derived.KernelRfl
namespace Go.Proofs.Ytcjeccohlmmfoaa
/- THE CELL 'sum', in the pinned program and in every row, IS THE sha256 OF THE DUMP (.gsa) THAT YtcjeccohlmmfoaaProg.lean LOADS. Nothing in Lean hashes anything: it is a label: what it is worth is what the hold of that sum in a sandbox is worth. -/
noncomputable def Try.pinned : Pinned := { name := "ytcjeccohlmmfoaa", sum := "5b433e66cf12ecf2b64e69e48a927451493d9d0728e6ebda653495c2158aa6f9", checked := Try.checked }
namespace Rows
def none {H : Type} : Left H := { results := [], args := [] }

/-- 'laws.FnExactCrossMoves': WHATEVER THE INPUT: true; the input reads as it did. -/
def fnExactCrossMovesSpec : ChangeSpec := { name := "fnExactCrossMoves", fn := fun _ => fun
  | [d] => { results := [.lit (.bool true)], args := [d] }
  | _ => none }
def fnExactCrossMovesRow : OpenClaim := { program := "ytcjeccohlmmfoaa", sum := "5b433e66cf12ecf2b64e69e48a927451493d9d0728e6ebda653495c2158aa6f9", func := "loop.example/g01388/laws.FnExactCrossMoves", spec := "fnExactCrossMoves", unfollowed := true, recurses := true, plainKeys := false, apart := false }
def FnExactCrossMovesSaid : Prop := fnExactCrossMovesRow.holds Try.pinned (OpenSpec.ofChange fnExactCrossMovesSpec)

/-- ITS FALSE NEIGHBOUR: 'it returns false'. Refute it at one input. -/
def fnExactCrossMovesWrong : ChangeSpec := { name := "fnExactCrossMoves", fn := fun _ => fun
  | [d] => { results := [.lit (.bool false)], args := [d] }
  | _ => none }
def FnExactCrossMovesWrongFalsely : Prop := fnExactCrossMovesRow.holds Try.pinned (OpenSpec.ofChange fnExactCrossMovesWrong)

/-- 'laws.FnExactCrossWinner': WHATEVER THE INPUT: true; the input reads as it did. -/
def fnExactCrossWinnerSpec : ChangeSpec := { name := "fnExactCrossWinner", fn := fun _ => fun
  | [d] => { results := [.lit (.bool true)], args := [d] }
  | _ => none }
def fnExactCrossWinnerRow : OpenClaim := { program := "ytcjeccohlmmfoaa", sum := "5b433e66cf12ecf2b64e69e48a927451493d9d0728e6ebda653495c2158aa6f9", func := "loop.example/g01388/laws.FnExactCrossWinner", spec := "fnExactCrossWinner", unfollowed := true, recurses := true, plainKeys := false, apart := false }
def FnExactCrossWinnerSaid : Prop := fnExactCrossWinnerRow.holds Try.pinned (OpenSpec.ofChange fnExactCrossWinnerSpec)

/-- ITS FALSE NEIGHBOUR: 'it returns false'. Refute it at one input. -/
def fnExactCrossWinnerWrong : ChangeSpec := { name := "fnExactCrossWinner", fn := fun _ => fun
  | [d] => { results := [.lit (.bool false)], args := [d] }
  | _ => none }
def FnExactCrossWinnerWrongFalsely : Prop := fnExactCrossWinnerRow.holds Try.pinned (OpenSpec.ofChange fnExactCrossWinnerWrong)

/-- 'laws.FnExactIsNet': WHATEVER THE INPUT: true; the input reads as it did. -/
def fnExactIsNetSpec : ChangeSpec := { name := "fnExactIsNet", fn := fun _ => fun
  | [d] => { results := [.lit (.bool true)], args := [d] }
  | _ => none }
def fnExactIsNetRow : OpenClaim := { program := "ytcjeccohlmmfoaa", sum := "5b433e66cf12ecf2b64e69e48a927451493d9d0728e6ebda653495c2158aa6f9", func := "loop.example/g01388/laws.FnExactIsNet", spec := "fnExactIsNet", unfollowed := true, recurses := true, plainKeys := false, apart := false }
def FnExactIsNetSaid : Prop := fnExactIsNetRow.holds Try.pinned (OpenSpec.ofChange fnExactIsNetSpec)

/-- ITS FALSE NEIGHBOUR: 'it returns false'. Refute it at one input. -/
def fnExactIsNetWrong : ChangeSpec := { name := "fnExactIsNet", fn := fun _ => fun
  | [d] => { results := [.lit (.bool false)], args := [d] }
  | _ => none }
def FnExactIsNetWrongFalsely : Prop := fnExactIsNetRow.holds Try.pinned (OpenSpec.ofChange fnExactIsNetWrong)

/-- 'laws.FnExactAreDoublyJoined': WHATEVER THE INPUT: true; the input reads as it did. -/
def fnExactAreDoublyJoinedSpec : ChangeSpec := { name := "fnExactAreDoublyJoined", fn := fun _ => fun
  | [d1, d2] => { results := [.lit (.bool true)], args := [d1, d2] }
  | _ => none }
def fnExactAreDoublyJoinedRow : OpenClaim := { program := "ytcjeccohlmmfoaa", sum := "5b433e66cf12ecf2b64e69e48a927451493d9d0728e6ebda653495c2158aa6f9", func := "loop.example/g01388/laws.FnExactAreDoublyJoined", spec := "fnExactAreDoublyJoined", unfollowed := true, recurses := true, plainKeys := false, apart := false }
def FnExactAreDoublyJoinedSaid : Prop := fnExactAreDoublyJoinedRow.holds Try.pinned (OpenSpec.ofChange fnExactAreDoublyJoinedSpec)

/-- ITS FALSE NEIGHBOUR: 'it returns false'. Refute it at one input. -/
def fnExactAreDoublyJoinedWrong : ChangeSpec := { name := "fnExactAreDoublyJoined", fn := fun _ => fun
  | [d1, d2] => { results := [.lit (.bool false)], args := [d1, d2] }
  | _ => none }
def FnExactAreDoublyJoinedWrongFalsely : Prop := fnExactAreDoublyJoinedRow.holds Try.pinned (OpenSpec.ofChange fnExactAreDoublyJoinedWrong)

/-- 'laws.FnExactFirstDouble': WHATEVER THE INPUT: true; the input reads as it did. -/
def fnExactFirstDoubleSpec : ChangeSpec := { name := "fnExactFirstDouble", fn := fun _ => fun
  | [d] => { results := [.lit (.bool true)], args := [d] }
  | _ => none }
def fnExactFirstDoubleRow : OpenClaim := { program := "ytcjeccohlmmfoaa", sum := "5b433e66cf12ecf2b64e69e48a927451493d9d0728e6ebda653495c2158aa6f9", func := "loop.example/g01388/laws.FnExactFirstDouble", spec := "fnExactFirstDouble", unfollowed := true, recurses := true, plainKeys := false, apart := false }
def FnExactFirstDoubleSaid : Prop := fnExactFirstDoubleRow.holds Try.pinned (OpenSpec.ofChange fnExactFirstDoubleSpec)

/-- ITS FALSE NEIGHBOUR: 'it returns false'. Refute it at one input. -/
def fnExactFirstDoubleWrong : ChangeSpec := { name := "fnExactFirstDouble", fn := fun _ => fun
  | [d] => { results := [.lit (.bool false)], args := [d] }
  | _ => none }
def FnExactFirstDoubleWrongFalsely : Prop := fnExactFirstDoubleRow.holds Try.pinned (OpenSpec.ofChange fnExactFirstDoubleWrong)

/-- 'laws.FnExactOwnerOf': WHATEVER THE INPUT: true; the input reads as it did. -/
def fnExactOwnerOfSpec : ChangeSpec := { name := "fnExactOwnerOf", fn := fun _ => fun
  | [d] => { results := [.lit (.bool true)], args := [d] }
  | _ => none }
def fnExactOwnerOfRow : OpenClaim := { program := "ytcjeccohlmmfoaa", sum := "5b433e66cf12ecf2b64e69e48a927451493d9d0728e6ebda653495c2158aa6f9", func := "loop.example/g01388/laws.FnExactOwnerOf", spec := "fnExactOwnerOf", inPlace := ["internal/abi.NoEscape", "internal/bytealg.MakeNoZero"], unfollowed := true, recurses := true, plainKeys := false, apart := false }
def FnExactOwnerOfSaid : Prop := fnExactOwnerOfRow.holds Try.pinned (OpenSpec.ofChange fnExactOwnerOfSpec)

/-- ITS FALSE NEIGHBOUR: 'it returns false'. Refute it at one input. -/
def fnExactOwnerOfWrong : ChangeSpec := { name := "fnExactOwnerOf", fn := fun _ => fun
  | [d] => { results := [.lit (.bool false)], args := [d] }
  | _ => none }
def FnExactOwnerOfWrongFalsely : Prop := fnExactOwnerOfRow.holds Try.pinned (OpenSpec.ofChange fnExactOwnerOfWrong)

/-- 'laws.FnExactNetOf': WHATEVER THE INPUT: true; the input reads as it did. -/
def fnExactNetOfSpec : ChangeSpec := { name := "fnExactNetOf", fn := fun _ => fun
  | [d] => { results := [.lit (.bool true)], args := [d] }
  | _ => none }
def fnExactNetOfRow : OpenClaim := { program := "ytcjeccohlmmfoaa", sum := "5b433e66cf12ecf2b64e69e48a927451493d9d0728e6ebda653495c2158aa6f9", func := "loop.example/g01388/laws.FnExactNetOf", spec := "fnExactNetOf", unfollowed := true, recurses := true, plainKeys := false, apart := false }
def FnExactNetOfSaid : Prop := fnExactNetOfRow.holds Try.pinned (OpenSpec.ofChange fnExactNetOfSpec)

/-- ITS FALSE NEIGHBOUR: 'it returns false'. Refute it at one input. -/
def fnExactNetOfWrong : ChangeSpec := { name := "fnExactNetOf", fn := fun _ => fun
  | [d] => { results := [.lit (.bool false)], args := [d] }
  | _ => none }
def FnExactNetOfWrongFalsely : Prop := fnExactNetOfRow.holds Try.pinned (OpenSpec.ofChange fnExactNetOfWrong)

/- THE SECOND FORM. 'bulk': how many values and letters a reading holds, each counted each time it is reached (what is shared counts as often as it is met; a slice's spare places count too). A statement '..UptoSaid' is the law's where the arguments, and the package variables that the reading takes, are together of bulk at most 1048576: NARROWER than '..Said'. Prove '..Said' where nothing that the law and all that it calls make is longer than what came in: it says more and counts as full. Else prove '..UptoSaid'. A law counts once. -/
mutual
def uptoBulk {H : Type} : DataW H → Nat
  | .lit (.string bytes) => bytes.length + 1
  | .lit _ => 1
  | .nil => 1
  | .ptr d => uptoBulk d + 1
  | .slice elems spare => uptoBulkAll elems + uptoBulkAll spare + 1
  | .agg parts => uptoBulkAll parts + 1
  | .iface _ d => uptoBulk d + 1
  | .map entries => uptoBulkEntries entries + 1
  | .held _ => 1
def uptoBulkAll {H : Type} : List (DataW H) → Nat
  | [] => 0
  | d :: r => uptoBulk d + uptoBulkAll r
def uptoBulkEntries {H : Type} : List (Lit × DataW H) → Nat
  | [] => 0
  | x :: r => uptoBulkEntry x + uptoBulkEntries r
def uptoBulkEntry {H : Type} : Lit × DataW H → Nat
  | (.string bytes, d) => bytes.length + uptoBulk d + 1
  | (_, d) => uptoBulk d + 1
 end
def uptoSmall : (H : Type) → List (DataW H) → Bool := fun _ ds => decide (uptoBulkAll ds ≤ 1048576)
def OpenSpec.upto (s : _root_.Go.ChangeSpec) : _root_.Go.OpenSpec := { _root_.Go.OpenSpec.ofChange s with cond := some uptoSmall }

/-- 'laws.FnExactCrossMoves', WHERE WHAT IT READS IS OF BULK AT MOST 1048576: true; the input reads as it did. -/
def fnExactCrossMovesUptoRow : OpenClaim := { program := "ytcjeccohlmmfoaa", sum := "5b433e66cf12ecf2b64e69e48a927451493d9d0728e6ebda653495c2158aa6f9", func := "loop.example/g01388/laws.FnExactCrossMoves", spec := "fnExactCrossMoves", unfollowed := true, recurses := true, plainKeys := false, apart := false, narrowed := true }
def FnExactCrossMovesUptoSaid : Prop := fnExactCrossMovesUptoRow.holds Try.pinned (OpenSpec.upto fnExactCrossMovesSpec)

/-- 'laws.FnExactCrossWinner', WHERE WHAT IT READS IS OF BULK AT MOST 1048576: true; the input reads as it did. -/
def fnExactCrossWinnerUptoRow : OpenClaim := { program := "ytcjeccohlmmfoaa", sum := "5b433e66cf12ecf2b64e69e48a927451493d9d0728e6ebda653495c2158aa6f9", func := "loop.example/g01388/laws.FnExactCrossWinner", spec := "fnExactCrossWinner", unfollowed := true, recurses := true, plainKeys := false, apart := false, narrowed := true }
def FnExactCrossWinnerUptoSaid : Prop := fnExactCrossWinnerUptoRow.holds Try.pinned (OpenSpec.upto fnExactCrossWinnerSpec)

/-- 'laws.FnExactIsNet', WHERE WHAT IT READS IS OF BULK AT MOST 1048576: true; the input reads as it did. -/
def fnExactIsNetUptoRow : OpenClaim := { program := "ytcjeccohlmmfoaa", sum := "5b433e66cf12ecf2b64e69e48a927451493d9d0728e6ebda653495c2158aa6f9", func := "loop.example/g01388/laws.FnExactIsNet", spec := "fnExactIsNet", unfollowed := true, recurses := true, plainKeys := false, apart := false, narrowed := true }
def FnExactIsNetUptoSaid : Prop := fnExactIsNetUptoRow.holds Try.pinned (OpenSpec.upto fnExactIsNetSpec)

/-- 'laws.FnExactAreDoublyJoined', WHERE WHAT IT READS IS OF BULK AT MOST 1048576: true; the input reads as it did. -/
def fnExactAreDoublyJoinedUptoRow : OpenClaim := { program := "ytcjeccohlmmfoaa", sum := "5b433e66cf12ecf2b64e69e48a927451493d9d0728e6ebda653495c2158aa6f9", func := "loop.example/g01388/laws.FnExactAreDoublyJoined", spec := "fnExactAreDoublyJoined", unfollowed := true, recurses := true, plainKeys := false, apart := false, narrowed := true }
def FnExactAreDoublyJoinedUptoSaid : Prop := fnExactAreDoublyJoinedUptoRow.holds Try.pinned (OpenSpec.upto fnExactAreDoublyJoinedSpec)

/-- 'laws.FnExactFirstDouble', WHERE WHAT IT READS IS OF BULK AT MOST 1048576: true; the input reads as it did. -/
def fnExactFirstDoubleUptoRow : OpenClaim := { program := "ytcjeccohlmmfoaa", sum := "5b433e66cf12ecf2b64e69e48a927451493d9d0728e6ebda653495c2158aa6f9", func := "loop.example/g01388/laws.FnExactFirstDouble", spec := "fnExactFirstDouble", unfollowed := true, recurses := true, plainKeys := false, apart := false, narrowed := true }
def FnExactFirstDoubleUptoSaid : Prop := fnExactFirstDoubleUptoRow.holds Try.pinned (OpenSpec.upto fnExactFirstDoubleSpec)

/-- 'laws.FnExactOwnerOf', WHERE WHAT IT READS IS OF BULK AT MOST 1048576: true; the input reads as it did. -/
def fnExactOwnerOfUptoRow : OpenClaim := { program := "ytcjeccohlmmfoaa", sum := "5b433e66cf12ecf2b64e69e48a927451493d9d0728e6ebda653495c2158aa6f9", func := "loop.example/g01388/laws.FnExactOwnerOf", spec := "fnExactOwnerOf", inPlace := ["internal/abi.NoEscape", "internal/bytealg.MakeNoZero"], unfollowed := true, recurses := true, plainKeys := false, apart := false, narrowed := true }
def FnExactOwnerOfUptoSaid : Prop := fnExactOwnerOfUptoRow.holds Try.pinned (OpenSpec.upto fnExactOwnerOfSpec)

/-- 'laws.FnExactNetOf', WHERE WHAT IT READS IS OF BULK AT MOST 1048576: true; the input reads as it did. -/
def fnExactNetOfUptoRow : OpenClaim := { program := "ytcjeccohlmmfoaa", sum := "5b433e66cf12ecf2b64e69e48a927451493d9d0728e6ebda653495c2158aa6f9", func := "loop.example/g01388/laws.FnExactNetOf", spec := "fnExactNetOf", unfollowed := true, recurses := true, plainKeys := false, apart := false, narrowed := true }
def FnExactNetOfUptoSaid : Prop := fnExactNetOfUptoRow.holds Try.pinned (OpenSpec.upto fnExactNetOfSpec)

end Rows
end Go.Proofs.Ytcjeccohlmmfoaa
