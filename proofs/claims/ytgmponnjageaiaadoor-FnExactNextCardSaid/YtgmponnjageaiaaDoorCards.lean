/-
  DERIVED. GIVEN WITH THE SEED: THE CARDS: each row of YtgmponnjageaiaaDoorRows.lean that lists a variable, with what it lists TIED to the program's text (the seventh form; the later family's looks); each row that meets fmt, with fmt's text TOLD by the authors' own Lean function (tested against real Go, not proved from fmt's source: count such statements apart). THE CARD IS WHAT COUNTS. Prove the row's statement (the work); the ties are given (YtgmponnjageaiaaDoorTie.lean); close each card by the builder's one call (the guide's Derived/Test/ToyasCard.lean, 'card_holds'). Laid BY PROGRAM, IN A SANDBOX (cutbox-door.mjs). By AI agents, Wed Nov 11 2026. No macro, syntax, notation, axiom, sorry.
-/
import Derived.Test.YtgmponnjageaiaaDoorRows
import GoSem.ClaimSeven
namespace Go.Proofs.YtgmponnjageaiaaDoor
namespace Rows

/-- THE TIED CARD OF 'laws.FnExactNext'. -/
def fnExactNextCard : Claim7 := { stood := { row := fnExactNextRow, standIns := [], harness := (true, "9e879f0c3de3e4cac02990aa7f8f70ccf5743c94e9ed02ac5599f09b5bde563d"), looks := true }, kinds := [], alts := [], laidByText := true, laidKinds := [.data, .data, .data, .sentinel, .sentinel, .data, .data, .data], laidTests := true, laidLooks := .later }
def FnExactNextCardSaid : Prop := Claim7.holds Tryd.pinned (.plain (OpenSpec.ofChange fnExactNextSpec)) fnExactNextCard

/-- THE SECOND FORM's CARD OF 'laws.FnExactNext'. -/
def fnExactNextUptoCard : Claim7 := { stood := { row := fnExactNextUptoRow, standIns := [], harness := (true, "9e879f0c3de3e4cac02990aa7f8f70ccf5743c94e9ed02ac5599f09b5bde563d"), looks := true }, kinds := [], alts := [], laidByText := true, laidKinds := [.data, .data, .data, .sentinel, .sentinel, .data, .data, .data], laidTests := true, laidLooks := .later }
def FnExactNextUptoCardSaid : Prop := Claim7.holds Tryd.pinned (.plain (OpenSpec.upto fnExactNextSpec)) fnExactNextUptoCard
end Rows
end Go.Proofs.YtgmponnjageaiaaDoor
