/-
  DERIVED. GIVEN WITH THE SEED: THE CARDS: each row of YtdoinjofjojmbaaGreatDoorRows.lean that lists a variable, with what it lists TIED to the program's text (the seventh form; the later family's looks); each row that meets fmt, with fmt's text TOLD by the authors' own Lean function (tested against real Go, not proved from fmt's source: count such statements apart). THE CARD IS WHAT COUNTS. Prove the row's statement (the work); the ties are given (YtdoinjofjojmbaaGreatDoorTie.lean); close each card by the builder's one call (the guide's Derived/Test/ToyasCard.lean, 'card_holds'). Laid BY PROGRAM, IN A SANDBOX (cutbox-door.mjs). By AI agents, Wed Nov 11 2026. No macro, syntax, notation, axiom, sorry.
-/
import Derived.Test.YtdoinjofjojmbaaGreatDoorRows
import GoSem.ClaimSeven
namespace Go.Proofs.YtdoinjofjojmbaaGreatDoor
namespace Rows

/-- THE TIED CARD OF 'laws.FnOutline'. -/
def fnOutlineCard : Claim7 := { stood := { row := fnOutlineRow, standIns := [], harness := (true, "bf650aa08eb3654dac375187a51741acbc17e221fac5be7967cf6f62345da8b7"), looks := true }, kinds := [], alts := [], laidByText := true, laidKinds := [.data, .data, .data, .sentinel, .sentinel, .data, .data, .data], laidTests := true, laidLooks := .later }
def FnOutlineCardSaid : Prop := Claim7.holds Tryz.pinned (.plain (OpenSpec.ofChange fnOutlineSpec)) fnOutlineCard

/-- THE SECOND FORM's CARD OF 'laws.FnOutline'. -/
def fnOutlineUptoCard : Claim7 := { stood := { row := fnOutlineUptoRow, standIns := [], harness := (true, "bf650aa08eb3654dac375187a51741acbc17e221fac5be7967cf6f62345da8b7"), looks := true }, kinds := [], alts := [], laidByText := true, laidKinds := [.data, .data, .data, .sentinel, .sentinel, .data, .data, .data], laidTests := true, laidLooks := .later }
def FnOutlineUptoCardSaid : Prop := Claim7.holds Tryz.pinned (.plain (OpenSpec.upto fnOutlineSpec)) fnOutlineUptoCard
end Rows
end Go.Proofs.YtdoinjofjojmbaaGreatDoor
