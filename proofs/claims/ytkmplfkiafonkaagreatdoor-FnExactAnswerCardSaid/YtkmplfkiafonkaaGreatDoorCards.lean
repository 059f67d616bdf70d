/-
  DERIVED. GIVEN WITH THE SEED: THE CARDS: each row of YtkmplfkiafonkaaGreatDoorRows.lean that lists a variable, with what it lists TIED to the program's text (the seventh form; the later family's looks); each row that meets fmt, with fmt's text TOLD by the authors' own Lean function (tested against real Go, not proved from fmt's source: count such statements apart). THE CARD IS WHAT COUNTS. Prove the row's statement (the work); the ties are given (YtkmplfkiafonkaaGreatDoorTie.lean); close each card by the builder's one call (the guide's Derived/Test/ToyasCard.lean, 'card_holds'). Laid BY PROGRAM, IN A SANDBOX (cutbox-door.mjs). By AI agents, Wed Nov 11 2026. No macro, syntax, notation, axiom, sorry.
-/
import Derived.Test.YtkmplfkiafonkaaGreatDoorRows
import GoSem.ClaimSeven
namespace Go.Proofs.YtkmplfkiafonkaaGreatDoor
namespace Rows

/-- THE TIED CARD OF 'laws.FnExactPrint'. -/
def fnExactPrintCard : Claim7 := { stood := { row := fnExactPrintRow, standIns := [], harness := (true, "964984a6e353a4e2adeb383b7bdedd62cbb3e624073b1565e69868e09556fc1f"), looks := true }, kinds := [], alts := [], laidByText := true, laidKinds := [.data, .data, .data, .sentinel, .sentinel, .data, .data, .data], laidTests := true, laidLooks := .later }
def FnExactPrintCardSaid : Prop := Claim7.holds Tryz.pinned (.plain (OpenSpec.ofChange fnExactPrintSpec)) fnExactPrintCard

/-- THE TIED CARD OF 'laws.FnExactParse'. -/
def fnExactParseCard : Claim7 := { stood := { row := fnExactParseRow, standIns := [], harness := (true, "964984a6e353a4e2adeb383b7bdedd62cbb3e624073b1565e69868e09556fc1f"), looks := true }, kinds := [], alts := [], laidByText := true, laidKinds := [.data, .data, .data, .sentinel, .sentinel, .data, .data, .data], laidTests := true, laidLooks := .later }
def FnExactParseCardSaid : Prop := Claim7.holds Tryz.pinned (.plain (OpenSpec.ofChange fnExactParseSpec)) fnExactParseCard

/-- THE TIED CARD OF 'laws.FnExactAnswer'. -/
def fnExactAnswerCard : Claim7 := { stood := { row := fnExactAnswerRow, standIns := [], harness := (true, "964984a6e353a4e2adeb383b7bdedd62cbb3e624073b1565e69868e09556fc1f"), looks := true }, kinds := [], alts := [], laidByText := true, laidKinds := [.data, .data, .data, .sentinel, .sentinel, .data, .data, .data], laidTests := true, laidLooks := .later }
def FnExactAnswerCardSaid : Prop := Claim7.holds Tryz.pinned (.plain (OpenSpec.ofChange fnExactAnswerSpec)) fnExactAnswerCard

/-- THE TIED CARD OF 'laws.FnExactTidied'. -/
def fnExactTidiedCard : Claim7 := { stood := { row := fnExactTidiedRow, standIns := [], harness := (true, "964984a6e353a4e2adeb383b7bdedd62cbb3e624073b1565e69868e09556fc1f"), looks := true }, kinds := [], alts := [], laidByText := true, laidKinds := [.data, .data, .data, .sentinel, .sentinel, .data, .data, .data], laidTests := true, laidLooks := .later }
def FnExactTidiedCardSaid : Prop := Claim7.holds Tryz.pinned (.plain (OpenSpec.ofChange fnExactTidiedSpec)) fnExactTidiedCard

/-- THE SECOND FORM's CARD OF 'laws.FnExactPrint'. -/
def fnExactPrintUptoCard : Claim7 := { stood := { row := fnExactPrintUptoRow, standIns := [], harness := (true, "964984a6e353a4e2adeb383b7bdedd62cbb3e624073b1565e69868e09556fc1f"), looks := true }, kinds := [], alts := [], laidByText := true, laidKinds := [.data, .data, .data, .sentinel, .sentinel, .data, .data, .data], laidTests := true, laidLooks := .later }
def FnExactPrintUptoCardSaid : Prop := Claim7.holds Tryz.pinned (.plain (OpenSpec.upto fnExactPrintSpec)) fnExactPrintUptoCard

/-- THE SECOND FORM's CARD OF 'laws.FnExactParse'. -/
def fnExactParseUptoCard : Claim7 := { stood := { row := fnExactParseUptoRow, standIns := [], harness := (true, "964984a6e353a4e2adeb383b7bdedd62cbb3e624073b1565e69868e09556fc1f"), looks := true }, kinds := [], alts := [], laidByText := true, laidKinds := [.data, .data, .data, .sentinel, .sentinel, .data, .data, .data], laidTests := true, laidLooks := .later }
def FnExactParseUptoCardSaid : Prop := Claim7.holds Tryz.pinned (.plain (OpenSpec.upto fnExactParseSpec)) fnExactParseUptoCard

/-- THE SECOND FORM's CARD OF 'laws.FnExactAnswer'. -/
def fnExactAnswerUptoCard : Claim7 := { stood := { row := fnExactAnswerUptoRow, standIns := [], harness := (true, "964984a6e353a4e2adeb383b7bdedd62cbb3e624073b1565e69868e09556fc1f"), looks := true }, kinds := [], alts := [], laidByText := true, laidKinds := [.data, .data, .data, .sentinel, .sentinel, .data, .data, .data], laidTests := true, laidLooks := .later }
def FnExactAnswerUptoCardSaid : Prop := Claim7.holds Tryz.pinned (.plain (OpenSpec.upto fnExactAnswerSpec)) fnExactAnswerUptoCard

/-- THE SECOND FORM's CARD OF 'laws.FnExactTidied'. -/
def fnExactTidiedUptoCard : Claim7 := { stood := { row := fnExactTidiedUptoRow, standIns := [], harness := (true, "964984a6e353a4e2adeb383b7bdedd62cbb3e624073b1565e69868e09556fc1f"), looks := true }, kinds := [], alts := [], laidByText := true, laidKinds := [.data, .data, .data, .sentinel, .sentinel, .data, .data, .data], laidTests := true, laidLooks := .later }
def FnExactTidiedUptoCardSaid : Prop := Claim7.holds Tryz.pinned (.plain (OpenSpec.upto fnExactTidiedSpec)) fnExactTidiedUptoCard
end Rows
end Go.Proofs.YtkmplfkiafonkaaGreatDoor
