/-
  DERIVED. GIVEN WITH THE SEED: THE CARDS: each row of YtcjeccohlmmfoaaDoorRows.lean that lists a variable, with what it lists TIED to the program's text (the seventh form; the later family's looks); each row that meets fmt, with fmt's text TOLD by the authors' own Lean function (tested against real Go, not proved from fmt's source: count such statements apart). THE CARD IS WHAT COUNTS. Prove the row's statement (the work); the ties are given (YtcjeccohlmmfoaaDoorTie.lean); close each card by the builder's one call (the guide's Derived/Test/ToyasCard.lean, 'card_holds'). Laid BY PROGRAM, IN A SANDBOX (cutbox-door.mjs). By AI agents, Wed Nov 11 2026. No macro, syntax, notation, axiom, sorry.
-/
import Derived.Test.YtcjeccohlmmfoaaDoorRows
import GoSem.ClaimSeven
namespace Go.Proofs.YtcjeccohlmmfoaaDoor
namespace Rows

/-- THE TIED CARD OF 'laws.FnExactStateOver'. -/
def fnExactStateOverCard : Claim7 := { stood := { row := fnExactStateOverRow, standIns := [], harness := (true, "a58bddea560803fdec15c4bfc44ec20482a71ccaf5bc2ba7eb3d2e520494279a"), looks := false }, kinds := [], alts := [], laidByText := true, laidKinds := [.data, .pinned], laidTests := true, laidLooks := .later }
def FnExactStateOverCardSaid : Prop := Claim7.holds Tryd.pinned (.plain (OpenSpec.ofChange fnExactStateOverSpec)) fnExactStateOverCard

/-- THE TIED CARD OF 'laws.FnExactStateWinner'. -/
def fnExactStateWinnerCard : Claim7 := { stood := { row := fnExactStateWinnerRow, standIns := [], harness := (true, "a58bddea560803fdec15c4bfc44ec20482a71ccaf5bc2ba7eb3d2e520494279a"), looks := false }, kinds := [], alts := [], laidByText := true, laidKinds := [.data, .pinned], laidTests := true, laidLooks := .later }
def FnExactStateWinnerCardSaid : Prop := Claim7.holds Tryd.pinned (.plain (OpenSpec.ofChange fnExactStateWinnerSpec)) fnExactStateWinnerCard

/-- THE TIED CARD OF 'laws.FnExactReplyTo'. -/
def fnExactReplyToCard : Claim7 := { stood := { row := fnExactReplyToRow, standIns := [], harness := (true, "a58bddea560803fdec15c4bfc44ec20482a71ccaf5bc2ba7eb3d2e520494279a"), looks := false }, kinds := [], alts := [], laidByText := true, laidKinds := [.data, .pinned], laidTests := true, laidLooks := .later }
def FnExactReplyToCardSaid : Prop := Claim7.holds Tryd.pinned (.plain (OpenSpec.ofChange fnExactReplyToSpec)) fnExactReplyToCard

/-- THE TIED CARD OF 'laws.FnExactPlayState'. -/
def fnExactPlayStateCard : Claim7 := { stood := { row := fnExactPlayStateRow, standIns := [], harness := (true, "a58bddea560803fdec15c4bfc44ec20482a71ccaf5bc2ba7eb3d2e520494279a"), looks := false }, kinds := [], alts := [], laidByText := true, laidKinds := [.data, .pinned], laidTests := true, laidLooks := .later }
def FnExactPlayStateCardSaid : Prop := Claim7.holds Tryd.pinned (.plain (OpenSpec.ofChange fnExactPlayStateSpec)) fnExactPlayStateCard

/-- THE TIED CARD OF 'laws.FnExactStateMoves'. -/
def fnExactStateMovesCard : Claim7 := { stood := { row := fnExactStateMovesRow, standIns := [], harness := (true, "a58bddea560803fdec15c4bfc44ec20482a71ccaf5bc2ba7eb3d2e520494279a"), looks := false }, kinds := [], alts := [], laidByText := true, laidKinds := [.data, .pinned], laidTests := true, laidLooks := .later }
def FnExactStateMovesCardSaid : Prop := Claim7.holds Tryd.pinned (.plain (OpenSpec.ofChange fnExactStateMovesSpec)) fnExactStateMovesCard

/-- THE TIED CARD OF 'laws.FnStates'. -/
def fnStatesCard : Claim7 := { stood := { row := fnStatesRow, standIns := [], harness := (true, "a58bddea560803fdec15c4bfc44ec20482a71ccaf5bc2ba7eb3d2e520494279a"), looks := false }, kinds := [], alts := [], laidByText := true, laidKinds := [.data, .pinned], laidTests := true, laidLooks := .later }
def FnStatesCardSaid : Prop := Claim7.holds Tryd.pinned (.plain (OpenSpec.ofChange fnStatesSpec)) fnStatesCard

/-- THE SECOND FORM's CARD OF 'laws.FnExactStateOver'. -/
def fnExactStateOverUptoCard : Claim7 := { stood := { row := fnExactStateOverUptoRow, standIns := [], harness := (true, "a58bddea560803fdec15c4bfc44ec20482a71ccaf5bc2ba7eb3d2e520494279a"), looks := false }, kinds := [], alts := [], laidByText := true, laidKinds := [.data, .pinned], laidTests := true, laidLooks := .later }
def FnExactStateOverUptoCardSaid : Prop := Claim7.holds Tryd.pinned (.plain (OpenSpec.upto fnExactStateOverSpec)) fnExactStateOverUptoCard

/-- THE SECOND FORM's CARD OF 'laws.FnExactStateWinner'. -/
def fnExactStateWinnerUptoCard : Claim7 := { stood := { row := fnExactStateWinnerUptoRow, standIns := [], harness := (true, "a58bddea560803fdec15c4bfc44ec20482a71ccaf5bc2ba7eb3d2e520494279a"), looks := false }, kinds := [], alts := [], laidByText := true, laidKinds := [.data, .pinned], laidTests := true, laidLooks := .later }
def FnExactStateWinnerUptoCardSaid : Prop := Claim7.holds Tryd.pinned (.plain (OpenSpec.upto fnExactStateWinnerSpec)) fnExactStateWinnerUptoCard

/-- THE SECOND FORM's CARD OF 'laws.FnExactReplyTo'. -/
def fnExactReplyToUptoCard : Claim7 := { stood := { row := fnExactReplyToUptoRow, standIns := [], harness := (true, "a58bddea560803fdec15c4bfc44ec20482a71ccaf5bc2ba7eb3d2e520494279a"), looks := false }, kinds := [], alts := [], laidByText := true, laidKinds := [.data, .pinned], laidTests := true, laidLooks := .later }
def FnExactReplyToUptoCardSaid : Prop := Claim7.holds Tryd.pinned (.plain (OpenSpec.upto fnExactReplyToSpec)) fnExactReplyToUptoCard

/-- THE SECOND FORM's CARD OF 'laws.FnExactPlayState'. -/
def fnExactPlayStateUptoCard : Claim7 := { stood := { row := fnExactPlayStateUptoRow, standIns := [], harness := (true, "a58bddea560803fdec15c4bfc44ec20482a71ccaf5bc2ba7eb3d2e520494279a"), looks := false }, kinds := [], alts := [], laidByText := true, laidKinds := [.data, .pinned], laidTests := true, laidLooks := .later }
def FnExactPlayStateUptoCardSaid : Prop := Claim7.holds Tryd.pinned (.plain (OpenSpec.upto fnExactPlayStateSpec)) fnExactPlayStateUptoCard

/-- THE SECOND FORM's CARD OF 'laws.FnExactStateMoves'. -/
def fnExactStateMovesUptoCard : Claim7 := { stood := { row := fnExactStateMovesUptoRow, standIns := [], harness := (true, "a58bddea560803fdec15c4bfc44ec20482a71ccaf5bc2ba7eb3d2e520494279a"), looks := false }, kinds := [], alts := [], laidByText := true, laidKinds := [.data, .pinned], laidTests := true, laidLooks := .later }
def FnExactStateMovesUptoCardSaid : Prop := Claim7.holds Tryd.pinned (.plain (OpenSpec.upto fnExactStateMovesSpec)) fnExactStateMovesUptoCard

/-- THE SECOND FORM's CARD OF 'laws.FnStates'. -/
def fnStatesUptoCard : Claim7 := { stood := { row := fnStatesUptoRow, standIns := [], harness := (true, "a58bddea560803fdec15c4bfc44ec20482a71ccaf5bc2ba7eb3d2e520494279a"), looks := false }, kinds := [], alts := [], laidByText := true, laidKinds := [.data, .pinned], laidTests := true, laidLooks := .later }
def FnStatesUptoCardSaid : Prop := Claim7.holds Tryd.pinned (.plain (OpenSpec.upto fnStatesSpec)) fnStatesUptoCard
end Rows
end Go.Proofs.YtcjeccohlmmfoaaDoor
