/-
  DERIVED. GIVEN WITH THE SEED: THE CARDS: each row of YtbmiojnkfgcfoaaDoorRows.lean that lists a variable, with what it lists TIED to the program's text (the seventh form; the later family's looks); each row that meets fmt, with fmt's text TOLD by the authors' own Lean function (tested against real Go, not proved from fmt's source: count such statements apart). THE CARD IS WHAT COUNTS. Prove the row's statement (the work); the ties are given (YtbmiojnkfgcfoaaDoorTie.lean); close each card by the builder's one call (the guide's Derived/Test/ToyasCard.lean, 'card_holds'). Laid BY PROGRAM, IN A SANDBOX (cutbox-door.mjs). By AI agents, Wed Nov 11 2026. No macro, syntax, notation, axiom, sorry.
-/
import Derived.Test.YtbmiojnkfgcfoaaDoorRows
import GoSem.ClaimSeven
namespace Go.Proofs.YtbmiojnkfgcfoaaDoor
namespace Rows

/-- THE TIED CARD OF 'laws.FnExactHexWinner'. -/
def fnExactHexWinnerCard : Claim7 := { stood := { row := fnExactHexWinnerRow, standIns := [], harness := (true, "afecb0ecdadcf3f6dfdb984a6feb58d123a1d2de123b1aa48048ee0231c5eae7"), looks := false }, kinds := [], alts := [], laidByText := true, laidKinds := [.data, .data, .data], laidTests := true, laidLooks := .later }
def FnExactHexWinnerCardSaid : Prop := Claim7.holds Tryd.pinned (.plain (OpenSpec.ofChange fnExactHexWinnerSpec)) fnExactHexWinnerCard

/-- THE TIED CARD OF 'laws.FnExactHexMoves'. -/
def fnExactHexMovesCard : Claim7 := { stood := { row := fnExactHexMovesRow, standIns := [], harness := (true, "afecb0ecdadcf3f6dfdb984a6feb58d123a1d2de123b1aa48048ee0231c5eae7"), looks := false }, kinds := [], alts := [], laidByText := true, laidKinds := [.data, .data, .data], laidTests := true, laidLooks := .later }
def FnExactHexMovesCardSaid : Prop := Claim7.holds Tryd.pinned (.plain (OpenSpec.ofChange fnExactHexMovesSpec)) fnExactHexMovesCard

/-- THE TIED CARD OF 'laws.FnHexPlay'. -/
def fnHexPlayCard : Claim7 := { stood := { row := fnHexPlayRow, standIns := [], harness := (true, "afecb0ecdadcf3f6dfdb984a6feb58d123a1d2de123b1aa48048ee0231c5eae7"), looks := false }, kinds := [], alts := [], laidByText := true, laidKinds := [.data, .data, .data], laidTests := true, laidLooks := .later }
def FnHexPlayCardSaid : Prop := Claim7.holds Tryd.pinned (.plain (OpenSpec.ofChange fnHexPlaySpec)) fnHexPlayCard

/-- THE SECOND FORM's CARD OF 'laws.FnExactHexWinner'. -/
def fnExactHexWinnerUptoCard : Claim7 := { stood := { row := fnExactHexWinnerUptoRow, standIns := [], harness := (true, "afecb0ecdadcf3f6dfdb984a6feb58d123a1d2de123b1aa48048ee0231c5eae7"), looks := false }, kinds := [], alts := [], laidByText := true, laidKinds := [.data, .data, .data], laidTests := true, laidLooks := .later }
def FnExactHexWinnerUptoCardSaid : Prop := Claim7.holds Tryd.pinned (.plain (OpenSpec.upto fnExactHexWinnerSpec)) fnExactHexWinnerUptoCard

/-- THE SECOND FORM's CARD OF 'laws.FnExactHexMoves'. -/
def fnExactHexMovesUptoCard : Claim7 := { stood := { row := fnExactHexMovesUptoRow, standIns := [], harness := (true, "afecb0ecdadcf3f6dfdb984a6feb58d123a1d2de123b1aa48048ee0231c5eae7"), looks := false }, kinds := [], alts := [], laidByText := true, laidKinds := [.data, .data, .data], laidTests := true, laidLooks := .later }
def FnExactHexMovesUptoCardSaid : Prop := Claim7.holds Tryd.pinned (.plain (OpenSpec.upto fnExactHexMovesSpec)) fnExactHexMovesUptoCard

/-- THE SECOND FORM's CARD OF 'laws.FnHexPlay'. -/
def fnHexPlayUptoCard : Claim7 := { stood := { row := fnHexPlayUptoRow, standIns := [], harness := (true, "afecb0ecdadcf3f6dfdb984a6feb58d123a1d2de123b1aa48048ee0231c5eae7"), looks := false }, kinds := [], alts := [], laidByText := true, laidKinds := [.data, .data, .data], laidTests := true, laidLooks := .later }
def FnHexPlayUptoCardSaid : Prop := Claim7.holds Tryd.pinned (.plain (OpenSpec.upto fnHexPlaySpec)) fnHexPlayUptoCard
end Rows
end Go.Proofs.YtbmiojnkfgcfoaaDoor
