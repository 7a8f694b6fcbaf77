/-
  NARROWER THAN 'FOR EVERY INPUT', by the rows' own cells (each row's printed sentence says how): FnExactStateOver: laid · FnExactStateWinner: laid · FnExactReplyTo: laid · FnExactPlayState: laid · FnExactStateMoves: laid · FnStates: laid.
  DERIVED. THE GIVEN ROWS OF THIS SEAT. 6 by the template 'for every input the law returns true; each argument reads behind the call as it read before'; 0 by the template 'total and deterministic' (their statements: YtcjeccohlmmfoaaDoorTotals.lean).
  GIVEN WITH THE SEED: the statements are not yours to turn. If you find one false, say at which input.
  Laid BY PROGRAM, IN A SANDBOX (cutbox-rows.mjs): the forced cells as the released guide's own fill.sh prints them over the translation 15fc1d3f9724bcc4… (all of the seat's roots in one cut). By AI agents, Wed Nov 11 2026. No macro, syntax, notation, axiom, sorry.
-/
import Derived.Test.YtcjeccohlmmfoaaDoorChecked
import GoSem.PinnedTables
import GoSem.Claim
import GoSem.ClaimJoined
import GoSem.ClaimMapViews
import Derived.JoinedTies
import Derived.KernelRfl
namespace Go.Proofs.YtcjeccohlmmfoaaDoor
/- THE CELL 'sum', in the pinned program and in every row, IS THE sha256 OF THE DUMP (.gsa) THAT YtcjeccohlmmfoaaDoorProg.lean LOADS. Nothing in Lean hashes anything: it is a label: what it is worth is what the hold of that sum in a sandbox is worth. -/
noncomputable def Tryd.pinned : Pinned := { name := "ytcjeccohlmmfoaadoor", sum := "15fc1d3f9724bcc427a7530b03fc16c7aa559cbdfe973ef7fef20a6b8f6dd560", checked := Tryd.checked }
namespace Rows
def none {H : Type} : Left H := { results := [], args := [] }

/- WHAT THE LISTED PACKAGE-LEVEL VARIABLES READ AS WHEN THE CALL BEGINS. Each datum BY PROGRAM (the guide's laid-datum.mjs) off the statement by which the dump's own 'gosem.cut.vars' lays the variable. In a bare row this is a premise. The card (YtcjeccohlmmfoaaDoorCards.lean) ties it to the program's text. -/
def laid_unicode_utf8_acceptRanges {H : Type} : DataW H := .agg [.agg [.lit (.int .u8 128), .lit (.int .u8 191)], .agg [.lit (.int .u8 160), .lit (.int .u8 191)], .agg [.lit (.int .u8 128), .lit (.int .u8 159)], .agg [.lit (.int .u8 144), .lit (.int .u8 191)], .agg [.lit (.int .u8 128), .lit (.int .u8 143)], .agg [.lit (.int .u8 0), .lit (.int .u8 0)], .agg [.lit (.int .u8 0), .lit (.int .u8 0)], .agg [.lit (.int .u8 0), .lit (.int .u8 0)], .agg [.lit (.int .u8 0), .lit (.int .u8 0)], .agg [.lit (.int .u8 0), .lit (.int .u8 0)], .agg [.lit (.int .u8 0), .lit (.int .u8 0)], .agg [.lit (.int .u8 0), .lit (.int .u8 0)], .agg [.lit (.int .u8 0), .lit (.int .u8 0)], .agg [.lit (.int .u8 0), .lit (.int .u8 0)], .agg [.lit (.int .u8 0), .lit (.int .u8 0)], .agg [.lit (.int .u8 0), .lit (.int .u8 0)]]
/-- One of Go's own tables, pinned by name: the form's constant. -/
def laid_unicode_utf8_first : DataW Unit := Go.Pinned.utf8First

/-- 'laws.FnExactStateOver': WHATEVER THE INPUT: true; the input reads as it did. -/
def fnExactStateOverSpec : ChangeSpec := { name := "fnExactStateOver", fn := fun _ => fun
  | [d1, d2] => { results := [.lit (.bool true)], args := [d1, d2] }
  | _ => none }
def fnExactStateOverRow : OpenClaim := { program := "ytcjeccohlmmfoaadoor", sum := "15fc1d3f9724bcc427a7530b03fc16c7aa559cbdfe973ef7fef20a6b8f6dd560", func := "loop.example/g01388/laws.FnExactStateOver", spec := "fnExactStateOver", inPlace := ["internal/bytealg.IndexByteString", "internal/bytealg.IndexString"], unfollowed := true, recurses := true, named := ["unicode/utf8.first", "unicode/utf8.acceptRanges", "internal/bytealg.MaxLen"], plainKeys := false, apart := false, laid := [("unicode/utf8.acceptRanges", laid_unicode_utf8_acceptRanges), ("unicode/utf8.first", laid_unicode_utf8_first)] }
def FnExactStateOverSaid : Prop := fnExactStateOverRow.holds Tryd.pinned (OpenSpec.ofChange fnExactStateOverSpec)

/-- ITS FALSE NEIGHBOUR: 'it returns false'. Refute it at one input. -/
def fnExactStateOverWrong : ChangeSpec := { name := "fnExactStateOver", fn := fun _ => fun
  | [d1, d2] => { results := [.lit (.bool false)], args := [d1, d2] }
  | _ => none }
def FnExactStateOverWrongFalsely : Prop := fnExactStateOverRow.holds Tryd.pinned (OpenSpec.ofChange fnExactStateOverWrong)

/-- 'laws.FnExactStateWinner': WHATEVER THE INPUT: true; the input reads as it did. -/
def fnExactStateWinnerSpec : ChangeSpec := { name := "fnExactStateWinner", fn := fun _ => fun
  | [d1, d2, d3] => { results := [.lit (.bool true)], args := [d1, d2, d3] }
  | _ => none }
def fnExactStateWinnerRow : OpenClaim := { program := "ytcjeccohlmmfoaadoor", sum := "15fc1d3f9724bcc427a7530b03fc16c7aa559cbdfe973ef7fef20a6b8f6dd560", func := "loop.example/g01388/laws.FnExactStateWinner", spec := "fnExactStateWinner", inPlace := ["internal/bytealg.IndexByteString", "internal/bytealg.IndexString"], unfollowed := true, recurses := true, named := ["unicode/utf8.first", "unicode/utf8.acceptRanges", "internal/bytealg.MaxLen"], plainKeys := false, apart := false, laid := [("unicode/utf8.acceptRanges", laid_unicode_utf8_acceptRanges), ("unicode/utf8.first", laid_unicode_utf8_first)] }
def FnExactStateWinnerSaid : Prop := fnExactStateWinnerRow.holds Tryd.pinned (OpenSpec.ofChange fnExactStateWinnerSpec)

/-- ITS FALSE NEIGHBOUR: 'it returns false'. Refute it at one input. -/
def fnExactStateWinnerWrong : ChangeSpec := { name := "fnExactStateWinner", fn := fun _ => fun
  | [d1, d2, d3] => { results := [.lit (.bool false)], args := [d1, d2, d3] }
  | _ => none }
def FnExactStateWinnerWrongFalsely : Prop := fnExactStateWinnerRow.holds Tryd.pinned (OpenSpec.ofChange fnExactStateWinnerWrong)

/-- 'laws.FnExactReplyTo': WHATEVER THE INPUT: true; the input reads as it did. -/
def fnExactReplyToSpec : ChangeSpec := { name := "fnExactReplyTo", fn := fun _ => fun
  | [d1, d2, d3] => { results := [.lit (.bool true)], args := [d1, d2, d3] }
  | _ => none }
def fnExactReplyToRow : OpenClaim := { program := "ytcjeccohlmmfoaadoor", sum := "15fc1d3f9724bcc427a7530b03fc16c7aa559cbdfe973ef7fef20a6b8f6dd560", func := "loop.example/g01388/laws.FnExactReplyTo", spec := "fnExactReplyTo", inPlace := ["internal/bytealg.IndexByteString", "internal/bytealg.IndexString"], unfollowed := true, recurses := true, named := ["unicode/utf8.first", "unicode/utf8.acceptRanges", "internal/bytealg.MaxLen"], plainKeys := false, apart := false, laid := [("unicode/utf8.acceptRanges", laid_unicode_utf8_acceptRanges), ("unicode/utf8.first", laid_unicode_utf8_first)] }
def FnExactReplyToSaid : Prop := fnExactReplyToRow.holds Tryd.pinned (OpenSpec.ofChange fnExactReplyToSpec)

/-- ITS FALSE NEIGHBOUR: 'it returns false'. Refute it at one input. -/
def fnExactReplyToWrong : ChangeSpec := { name := "fnExactReplyTo", fn := fun _ => fun
  | [d1, d2, d3] => { results := [.lit (.bool false)], args := [d1, d2, d3] }
  | _ => none }
def FnExactReplyToWrongFalsely : Prop := fnExactReplyToRow.holds Tryd.pinned (OpenSpec.ofChange fnExactReplyToWrong)

/-- 'laws.FnExactPlayState': WHATEVER THE INPUT: true; the input reads as it did. -/
def fnExactPlayStateSpec : ChangeSpec := { name := "fnExactPlayState", fn := fun _ => fun
  | [d1, d2, d3] => { results := [.lit (.bool true)], args := [d1, d2, d3] }
  | _ => none }
def fnExactPlayStateRow : OpenClaim := { program := "ytcjeccohlmmfoaadoor", sum := "15fc1d3f9724bcc427a7530b03fc16c7aa559cbdfe973ef7fef20a6b8f6dd560", func := "loop.example/g01388/laws.FnExactPlayState", spec := "fnExactPlayState", inPlace := ["internal/bytealg.IndexByteString", "internal/bytealg.IndexString"], unfollowed := true, recurses := true, named := ["unicode/utf8.first", "unicode/utf8.acceptRanges", "internal/bytealg.MaxLen"], plainKeys := false, apart := false, laid := [("unicode/utf8.acceptRanges", laid_unicode_utf8_acceptRanges), ("unicode/utf8.first", laid_unicode_utf8_first)] }
def FnExactPlayStateSaid : Prop := fnExactPlayStateRow.holds Tryd.pinned (OpenSpec.ofChange fnExactPlayStateSpec)

/-- ITS FALSE NEIGHBOUR: 'it returns false'. Refute it at one input. -/
def fnExactPlayStateWrong : ChangeSpec := { name := "fnExactPlayState", fn := fun _ => fun
  | [d1, d2, d3] => { results := [.lit (.bool false)], args := [d1, d2, d3] }
  | _ => none }
def FnExactPlayStateWrongFalsely : Prop := fnExactPlayStateRow.holds Tryd.pinned (OpenSpec.ofChange fnExactPlayStateWrong)

/-- 'laws.FnExactStateMoves': WHATEVER THE INPUT: true; the input reads as it did. -/
def fnExactStateMovesSpec : ChangeSpec := { name := "fnExactStateMoves", fn := fun _ => fun
  | [d1, d2, d3] => { results := [.lit (.bool true)], args := [d1, d2, d3] }
  | _ => none }
def fnExactStateMovesRow : OpenClaim := { program := "ytcjeccohlmmfoaadoor", sum := "15fc1d3f9724bcc427a7530b03fc16c7aa559cbdfe973ef7fef20a6b8f6dd560", func := "loop.example/g01388/laws.FnExactStateMoves", spec := "fnExactStateMoves", inPlace := ["internal/bytealg.IndexByteString", "internal/bytealg.IndexString"], unfollowed := true, recurses := true, named := ["unicode/utf8.first", "unicode/utf8.acceptRanges", "internal/bytealg.MaxLen"], plainKeys := false, apart := false, laid := [("unicode/utf8.acceptRanges", laid_unicode_utf8_acceptRanges), ("unicode/utf8.first", laid_unicode_utf8_first)] }
def FnExactStateMovesSaid : Prop := fnExactStateMovesRow.holds Tryd.pinned (OpenSpec.ofChange fnExactStateMovesSpec)

/-- ITS FALSE NEIGHBOUR: 'it returns false'. Refute it at one input. -/
def fnExactStateMovesWrong : ChangeSpec := { name := "fnExactStateMoves", fn := fun _ => fun
  | [d1, d2, d3] => { results := [.lit (.bool false)], args := [d1, d2, d3] }
  | _ => none }
def FnExactStateMovesWrongFalsely : Prop := fnExactStateMovesRow.holds Tryd.pinned (OpenSpec.ofChange fnExactStateMovesWrong)

/-- 'laws.FnStates': WHATEVER THE INPUT: true; the input reads as it did. -/
def fnStatesSpec : ChangeSpec := { name := "fnStates", fn := fun _ => fun
  | [d] => { results := [.lit (.bool true)], args := [d] }
  | _ => none }
def fnStatesRow : OpenClaim := { program := "ytcjeccohlmmfoaadoor", sum := "15fc1d3f9724bcc427a7530b03fc16c7aa559cbdfe973ef7fef20a6b8f6dd560", func := "loop.example/g01388/laws.FnStates", spec := "fnStates", inPlace := ["internal/bytealg.IndexByteString", "internal/bytealg.IndexString"], unfollowed := true, recurses := true, named := ["unicode/utf8.first", "unicode/utf8.acceptRanges", "internal/bytealg.MaxLen"], plainKeys := false, apart := false, laid := [("unicode/utf8.acceptRanges", laid_unicode_utf8_acceptRanges), ("unicode/utf8.first", laid_unicode_utf8_first)] }
def FnStatesSaid : Prop := fnStatesRow.holds Tryd.pinned (OpenSpec.ofChange fnStatesSpec)

/-- ITS FALSE NEIGHBOUR: 'it returns false'. Refute it at one input. -/
def fnStatesWrong : ChangeSpec := { name := "fnStates", fn := fun _ => fun
  | [d] => { results := [.lit (.bool false)], args := [d] }
  | _ => none }
def FnStatesWrongFalsely : Prop := fnStatesRow.holds Tryd.pinned (OpenSpec.ofChange fnStatesWrong)

/- THE SECOND FORM. 'bulk': how many values and letters a reading holds, each counted each time it is reached (what is shared counts as often as it is met; a slice's spare places count too). A statement '..UptoSaid' is the law's where the arguments, and the package variables that the reading takes, are together of bulk at most 1048576: NARROWER than '..Said'. Prove '..Said' where nothing that the law and all that it calls make is longer than what came in: it says more and counts as full. Else prove '..UptoSaid'. A law counts once. -/
mutual
def uptoBulk {H : Type} : DataW H → Nat
  | .lit (.string bytes) => bytes.length + 1
  | .lit _ => 1
  | .nil => 1
  | .ptr d => uptoBulk d + 1
  | .slice elems spare => uptoBulkAll elems + uptoBulkAll spare + 1
  | .agg parts => uptoBulkAll parts + 1
  | .iface _ d => uptoBulk d + 1
  | .map entries => uptoBulkEntries entries + 1
  | .held _ => 1
def uptoBulkAll {H : Type} : List (DataW H) → Nat
  | [] => 0
  | d :: r => uptoBulk d + uptoBulkAll r
def uptoBulkEntries {H : Type} : List (Lit × DataW H) → Nat
  | [] => 0
  | x :: r => uptoBulkEntry x + uptoBulkEntries r
def uptoBulkEntry {H : Type} : Lit × DataW H → Nat
  | (.string bytes, d) => bytes.length + uptoBulk d + 1
  | (_, d) => uptoBulk d + 1
 end
def uptoSmall : (H : Type) → List (DataW H) → Bool := fun _ ds => decide (uptoBulkAll ds ≤ 1048576)
def OpenSpec.upto (s : _root_.Go.ChangeSpec) : _root_.Go.OpenSpec := { _root_.Go.OpenSpec.ofChange s with cond := some uptoSmall }

/-- 'laws.FnExactStateOver', WHERE WHAT IT READS IS OF BULK AT MOST 1048576: true; the input reads as it did. -/
def fnExactStateOverUptoRow : OpenClaim := { program := "ytcjeccohlmmfoaadoor", sum := "15fc1d3f9724bcc427a7530b03fc16c7aa559cbdfe973ef7fef20a6b8f6dd560", func := "loop.example/g01388/laws.FnExactStateOver", spec := "fnExactStateOver", inPlace := ["internal/bytealg.IndexByteString", "internal/bytealg.IndexString"], unfollowed := true, recurses := true, named := ["unicode/utf8.first", "unicode/utf8.acceptRanges", "internal/bytealg.MaxLen"], plainKeys := false, apart := false, laid := [("unicode/utf8.acceptRanges", laid_unicode_utf8_acceptRanges), ("unicode/utf8.first", laid_unicode_utf8_first)], narrowed := true }
def FnExactStateOverUptoSaid : Prop := fnExactStateOverUptoRow.holds Tryd.pinned (OpenSpec.upto fnExactStateOverSpec)

/-- 'laws.FnExactStateWinner', WHERE WHAT IT READS IS OF BULK AT MOST 1048576: true; the input reads as it did. -/
def fnExactStateWinnerUptoRow : OpenClaim := { program := "ytcjeccohlmmfoaadoor", sum := "15fc1d3f9724bcc427a7530b03fc16c7aa559cbdfe973ef7fef20a6b8f6dd560", func := "loop.example/g01388/laws.FnExactStateWinner", spec := "fnExactStateWinner", inPlace := ["internal/bytealg.IndexByteString", "internal/bytealg.IndexString"], unfollowed := true, recurses := true, named := ["unicode/utf8.first", "unicode/utf8.acceptRanges", "internal/bytealg.MaxLen"], plainKeys := false, apart := false, laid := [("unicode/utf8.acceptRanges", laid_unicode_utf8_acceptRanges), ("unicode/utf8.first", laid_unicode_utf8_first)], narrowed := true }
def FnExactStateWinnerUptoSaid : Prop := fnExactStateWinnerUptoRow.holds Tryd.pinned (OpenSpec.upto fnExactStateWinnerSpec)

/-- 'laws.FnExactReplyTo', WHERE WHAT IT READS IS OF BULK AT MOST 1048576: true; the input reads as it did. -/
def fnExactReplyToUptoRow : OpenClaim := { program := "ytcjeccohlmmfoaadoor", sum := "15fc1d3f9724bcc427a7530b03fc16c7aa559cbdfe973ef7fef20a6b8f6dd560", func := "loop.example/g01388/laws.FnExactReplyTo", spec := "fnExactReplyTo", inPlace := ["internal/bytealg.IndexByteString", "internal/bytealg.IndexString"], unfollowed := true, recurses := true, named := ["unicode/utf8.first", "unicode/utf8.acceptRanges", "internal/bytealg.MaxLen"], plainKeys := false, apart := false, laid := [("unicode/utf8.acceptRanges", laid_unicode_utf8_acceptRanges), ("unicode/utf8.first", laid_unicode_utf8_first)], narrowed := true }
def FnExactReplyToUptoSaid : Prop := fnExactReplyToUptoRow.holds Tryd.pinned (OpenSpec.upto fnExactReplyToSpec)

/-- 'laws.FnExactPlayState', WHERE WHAT IT READS IS OF BULK AT MOST 1048576: true; the input reads as it did. -/
def fnExactPlayStateUptoRow : OpenClaim := { program := "ytcjeccohlmmfoaadoor", sum := "15fc1d3f9724bcc427a7530b03fc16c7aa559cbdfe973ef7fef20a6b8f6dd560", func := "loop.example/g01388/laws.FnExactPlayState", spec := "fnExactPlayState", inPlace := ["internal/bytealg.IndexByteString", "internal/bytealg.IndexString"], unfollowed := true, recurses := true, named := ["unicode/utf8.first", "unicode/utf8.acceptRanges", "internal/bytealg.MaxLen"], plainKeys := false, apart := false, laid := [("unicode/utf8.acceptRanges", laid_unicode_utf8_acceptRanges), ("unicode/utf8.first", laid_unicode_utf8_first)], narrowed := true }
def FnExactPlayStateUptoSaid : Prop := fnExactPlayStateUptoRow.holds Tryd.pinned (OpenSpec.upto fnExactPlayStateSpec)

/-- 'laws.FnExactStateMoves', WHERE WHAT IT READS IS OF BULK AT MOST 1048576: true; the input reads as it did. -/
def fnExactStateMovesUptoRow : OpenClaim := { program := "ytcjeccohlmmfoaadoor", sum := "15fc1d3f9724bcc427a7530b03fc16c7aa559cbdfe973ef7fef20a6b8f6dd560", func := "loop.example/g01388/laws.FnExactStateMoves", spec := "fnExactStateMoves", inPlace := ["internal/bytealg.IndexByteString", "internal/bytealg.IndexString"], unfollowed := true, recurses := true, named := ["unicode/utf8.first", "unicode/utf8.acceptRanges", "internal/bytealg.MaxLen"], plainKeys := false, apart := false, laid := [("unicode/utf8.acceptRanges", laid_unicode_utf8_acceptRanges), ("unicode/utf8.first", laid_unicode_utf8_first)], narrowed := true }
def FnExactStateMovesUptoSaid : Prop := fnExactStateMovesUptoRow.holds Tryd.pinned (OpenSpec.upto fnExactStateMovesSpec)

/-- 'laws.FnStates', WHERE WHAT IT READS IS OF BULK AT MOST 1048576: true; the input reads as it did. -/
def fnStatesUptoRow : OpenClaim := { program := "ytcjeccohlmmfoaadoor", sum := "15fc1d3f9724bcc427a7530b03fc16c7aa559cbdfe973ef7fef20a6b8f6dd560", func := "loop.example/g01388/laws.FnStates", spec := "fnStates", inPlace := ["internal/bytealg.IndexByteString", "internal/bytealg.IndexString"], unfollowed := true, recurses := true, named := ["unicode/utf8.first", "unicode/utf8.acceptRanges", "internal/bytealg.MaxLen"], plainKeys := false, apart := false, laid := [("unicode/utf8.acceptRanges", laid_unicode_utf8_acceptRanges), ("unicode/utf8.first", laid_unicode_utf8_first)], narrowed := true }
def FnStatesUptoSaid : Prop := fnStatesUptoRow.holds Tryd.pinned (OpenSpec.upto fnStatesSpec)

end Rows
end Go.Proofs.YtcjeccohlmmfoaaDoor
