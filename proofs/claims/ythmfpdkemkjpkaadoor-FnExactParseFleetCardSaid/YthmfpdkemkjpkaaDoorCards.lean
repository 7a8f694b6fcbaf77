/-
  DERIVED. GIVEN WITH THE SEED: THE CARDS: each row of YthmfpdkemkjpkaaDoorRows.lean that lists a variable, with what it lists TIED to the program's text (the seventh form; the later family's looks); each row that meets fmt, with fmt's text TOLD by the authors' own Lean function (tested against real Go, not proved from fmt's source: count such statements apart). THE CARD IS WHAT COUNTS. Prove the row's statement (the work); the ties are given (YthmfpdkemkjpkaaDoorTie.lean); close each card by the builder's one call (the guide's Derived/Test/ToyasCard.lean, 'card_holds'). Laid BY PROGRAM, IN A SANDBOX (cutbox-door.mjs). By AI agents, Wed Nov 11 2026. No macro, syntax, notation, axiom, sorry.
-/
import Derived.Test.YthmfpdkemkjpkaaDoorRows
import GoSem.ClaimSeven
namespace Go.Proofs.YthmfpdkemkjpkaaDoor
namespace Rows

/-- THE TIED CARD OF 'laws.FnExactParseFleet'. -/
def fnExactParseFleetCard : Claim7 := { stood := { row := fnExactParseFleetRow, standIns := [], harness := (true, "c73e7bbb5fdf9e71c19cf41ba17da6829a013760208948a510e76fe4b9515077"), looks := false }, kinds := [], alts := [], laidByText := true, laidKinds := [.data, .pinned], laidTests := true, laidLooks := .later }
def FnExactParseFleetCardSaid : Prop := Claim7.holds Tryd.pinned (.plain (OpenSpec.ofChange fnExactParseFleetSpec)) fnExactParseFleetCard

/-- THE SECOND FORM's CARD OF 'laws.FnExactParseFleet'. -/
def fnExactParseFleetUptoCard : Claim7 := { stood := { row := fnExactParseFleetUptoRow, standIns := [], harness := (true, "c73e7bbb5fdf9e71c19cf41ba17da6829a013760208948a510e76fe4b9515077"), looks := false }, kinds := [], alts := [], laidByText := true, laidKinds := [.data, .pinned], laidTests := true, laidLooks := .later }
def FnExactParseFleetUptoCardSaid : Prop := Claim7.holds Tryd.pinned (.plain (OpenSpec.upto fnExactParseFleetSpec)) fnExactParseFleetUptoCard
end Rows
end Go.Proofs.YthmfpdkemkjpkaaDoor
