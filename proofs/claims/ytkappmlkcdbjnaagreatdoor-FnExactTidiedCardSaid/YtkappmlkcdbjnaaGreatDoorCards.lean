/-
  DERIVED. GIVEN WITH THE SEED: THE CARDS: each row of YtkappmlkcdbjnaaGreatDoorRows.lean that lists a variable, with what it lists TIED to the program's text (the seventh form; the later family's looks); each row that meets fmt, with fmt's text TOLD by the authors' own Lean function (tested against real Go, not proved from fmt's source: count such statements apart). THE CARD IS WHAT COUNTS. Prove the row's statement (the work); the ties are given (YtkappmlkcdbjnaaGreatDoorTie.lean); close each card by the builder's one call (the guide's Derived/Test/ToyasCard.lean, 'card_holds'). Laid BY PROGRAM, IN A SANDBOX (cutbox-door.mjs). By AI agents, Wed Nov 11 2026. No macro, syntax, notation, axiom, sorry.
-/
import Derived.Test.YtkappmlkcdbjnaaGreatDoorRows
import GoSem.ClaimSeven
namespace Go.Proofs.YtkappmlkcdbjnaaGreatDoor
namespace Rows

/-- THE TIED CARD OF 'laws.FnExactTidied'. -/
def fnExactTidiedCard : Claim7 := { stood := { row := fnExactTidiedRow, standIns := [], harness := (true, "29fd116946593f0fd24afe423dc53c84978d195f1c40271a292be9b34c6a29fa"), looks := true }, kinds := [], alts := [], laidByText := true, laidKinds := [.data, .data, .data, .sentinel, .sentinel, .data, .data, .data], laidTests := true, laidLooks := .later }
def FnExactTidiedCardSaid : Prop := Claim7.holds Tryz.pinned (.plain (OpenSpec.ofChange fnExactTidiedSpec)) fnExactTidiedCard

/-- THE SECOND FORM's CARD OF 'laws.FnExactTidied'. -/
def fnExactTidiedUptoCard : Claim7 := { stood := { row := fnExactTidiedUptoRow, standIns := [], harness := (true, "29fd116946593f0fd24afe423dc53c84978d195f1c40271a292be9b34c6a29fa"), looks := true }, kinds := [], alts := [], laidByText := true, laidKinds := [.data, .data, .data, .sentinel, .sentinel, .data, .data, .data], laidTests := true, laidLooks := .later }
def FnExactTidiedUptoCardSaid : Prop := Claim7.holds Tryz.pinned (.plain (OpenSpec.upto fnExactTidiedSpec)) fnExactTidiedUptoCard
end Rows
end Go.Proofs.YtkappmlkcdbjnaaGreatDoor
