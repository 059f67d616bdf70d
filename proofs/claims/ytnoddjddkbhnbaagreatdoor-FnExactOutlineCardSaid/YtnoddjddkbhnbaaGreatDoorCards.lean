/-
  DERIVED. GIVEN WITH THE SEED: THE CARDS: each row of YtnoddjddkbhnbaaGreatDoorRows.lean that lists a variable, with what it lists TIED to the program's text (the seventh form; the later family's looks); each row that meets fmt, with fmt's text TOLD by the authors' own Lean function (tested against real Go, not proved from fmt's source: count such statements apart). THE CARD IS WHAT COUNTS. Prove the row's statement (the work); the ties are given (YtnoddjddkbhnbaaGreatDoorTie.lean); close each card by the builder's one call (the guide's Derived/Test/ToyasCard.lean, 'card_holds'). Laid BY PROGRAM, IN A SANDBOX (cutbox-door.mjs). By AI agents, Wed Nov 11 2026. No macro, syntax, notation, axiom, sorry.
-/
import Derived.Test.YtnoddjddkbhnbaaGreatDoorRows
import GoSem.ClaimSeven
namespace Go.Proofs.YtnoddjddkbhnbaaGreatDoor
namespace Rows

/-- THE TIED CARD OF 'laws.FnExactPath'. -/
def fnExactPathCard : Claim7 := { stood := { row := fnExactPathRow, standIns := [], harness := (true, "4e3d85be510023ad1ea55354940b0eda3824eb405225e0444297d2af1764754c"), looks := true }, kinds := [], alts := [], laidByText := true, laidKinds := [.data, .data, .data, .sentinel, .sentinel, .data, .data, .data], laidTests := true, laidLooks := .later }
def FnExactPathCardSaid : Prop := Claim7.holds Tryz.pinned (.plain (OpenSpec.ofChange fnExactPathSpec)) fnExactPathCard

/-- THE TIED CARD OF 'laws.FnExactOutline'. -/
def fnExactOutlineCard : Claim7 := { stood := { row := fnExactOutlineRow, standIns := [], harness := (true, "4e3d85be510023ad1ea55354940b0eda3824eb405225e0444297d2af1764754c"), looks := true }, kinds := [], alts := [], laidByText := true, laidKinds := [.data, .data, .data, .sentinel, .sentinel, .data, .data, .data], laidTests := true, laidLooks := .later }
def FnExactOutlineCardSaid : Prop := Claim7.holds Tryz.pinned (.plain (OpenSpec.ofChange fnExactOutlineSpec)) fnExactOutlineCard

/-- THE TIED CARD OF 'laws.FnExactDump'. -/
def fnExactDumpCard : Claim7 := { stood := { row := fnExactDumpRow, standIns := [], harness := (true, "4e3d85be510023ad1ea55354940b0eda3824eb405225e0444297d2af1764754c"), looks := true }, kinds := [], alts := [], laidByText := true, laidKinds := [.data, .data, .data, .sentinel, .sentinel, .data, .data, .data], laidTests := true, laidLooks := .later }
def FnExactDumpCardSaid : Prop := Claim7.holds Tryz.pinned (.plain (OpenSpec.ofChange fnExactDumpSpec)) fnExactDumpCard

/-- THE TIED CARD OF 'laws.FnExactPrint'. -/
def fnExactPrintCard : Claim7 := { stood := { row := fnExactPrintRow, standIns := [], harness := (true, "4e3d85be510023ad1ea55354940b0eda3824eb405225e0444297d2af1764754c"), looks := true }, kinds := [], alts := [], laidByText := true, laidKinds := [.data, .data, .data, .sentinel, .sentinel, .data, .data, .data], laidTests := true, laidLooks := .later }
def FnExactPrintCardSaid : Prop := Claim7.holds Tryz.pinned (.plain (OpenSpec.ofChange fnExactPrintSpec)) fnExactPrintCard

/-- THE TIED CARD OF 'laws.FnExactParse'. -/
def fnExactParseCard : Claim7 := { stood := { row := fnExactParseRow, standIns := [], harness := (true, "4e3d85be510023ad1ea55354940b0eda3824eb405225e0444297d2af1764754c"), looks := true }, kinds := [], alts := [], laidByText := true, laidKinds := [.data, .data, .data, .sentinel, .sentinel, .data, .data, .data], laidTests := true, laidLooks := .later }
def FnExactParseCardSaid : Prop := Claim7.holds Tryz.pinned (.plain (OpenSpec.ofChange fnExactParseSpec)) fnExactParseCard

/-- THE TIED CARD OF 'laws.FnExactAnswer'. -/
def fnExactAnswerCard : Claim7 := { stood := { row := fnExactAnswerRow, standIns := [], harness := (true, "4e3d85be510023ad1ea55354940b0eda3824eb405225e0444297d2af1764754c"), looks := true }, kinds := [], alts := [], laidByText := true, laidKinds := [.data, .data, .data, .sentinel, .sentinel, .data, .data, .data], laidTests := true, laidLooks := .later }
def FnExactAnswerCardSaid : Prop := Claim7.holds Tryz.pinned (.plain (OpenSpec.ofChange fnExactAnswerSpec)) fnExactAnswerCard

/-- THE TIED CARD OF 'laws.FnExactTidied'. -/
def fnExactTidiedCard : Claim7 := { stood := { row := fnExactTidiedRow, standIns := [], harness := (true, "4e3d85be510023ad1ea55354940b0eda3824eb405225e0444297d2af1764754c"), looks := true }, kinds := [], alts := [], laidByText := true, laidKinds := [.data, .data, .data, .sentinel, .sentinel, .data, .data, .data], laidTests := true, laidLooks := .later }
def FnExactTidiedCardSaid : Prop := Claim7.holds Tryz.pinned (.plain (OpenSpec.ofChange fnExactTidiedSpec)) fnExactTidiedCard

/-- THE SECOND FORM's CARD OF 'laws.FnExactPath'. -/
def fnExactPathUptoCard : Claim7 := { stood := { row := fnExactPathUptoRow, standIns := [], harness := (true, "4e3d85be510023ad1ea55354940b0eda3824eb405225e0444297d2af1764754c"), looks := true }, kinds := [], alts := [], laidByText := true, laidKinds := [.data, .data, .data, .sentinel, .sentinel, .data, .data, .data], laidTests := true, laidLooks := .later }
def FnExactPathUptoCardSaid : Prop := Claim7.holds Tryz.pinned (.plain (OpenSpec.upto fnExactPathSpec)) fnExactPathUptoCard

/-- THE SECOND FORM's CARD OF 'laws.FnExactOutline'. -/
def fnExactOutlineUptoCard : Claim7 := { stood := { row := fnExactOutlineUptoRow, standIns := [], harness := (true, "4e3d85be510023ad1ea55354940b0eda3824eb405225e0444297d2af1764754c"), looks := true }, kinds := [], alts := [], laidByText := true, laidKinds := [.data, .data, .data, .sentinel, .sentinel, .data, .data, .data], laidTests := true, laidLooks := .later }
def FnExactOutlineUptoCardSaid : Prop := Claim7.holds Tryz.pinned (.plain (OpenSpec.upto fnExactOutlineSpec)) fnExactOutlineUptoCard

/-- THE SECOND FORM's CARD OF 'laws.FnExactDump'. -/
def fnExactDumpUptoCard : Claim7 := { stood := { row := fnExactDumpUptoRow, standIns := [], harness := (true, "4e3d85be510023ad1ea55354940b0eda3824eb405225e0444297d2af1764754c"), looks := true }, kinds := [], alts := [], laidByText := true, laidKinds := [.data, .data, .data, .sentinel, .sentinel, .data, .data, .data], laidTests := true, laidLooks := .later }
def FnExactDumpUptoCardSaid : Prop := Claim7.holds Tryz.pinned (.plain (OpenSpec.upto fnExactDumpSpec)) fnExactDumpUptoCard

/-- THE SECOND FORM's CARD OF 'laws.FnExactPrint'. -/
def fnExactPrintUptoCard : Claim7 := { stood := { row := fnExactPrintUptoRow, standIns := [], harness := (true, "4e3d85be510023ad1ea55354940b0eda3824eb405225e0444297d2af1764754c"), looks := true }, kinds := [], alts := [], laidByText := true, laidKinds := [.data, .data, .data, .sentinel, .sentinel, .data, .data, .data], laidTests := true, laidLooks := .later }
def FnExactPrintUptoCardSaid : Prop := Claim7.holds Tryz.pinned (.plain (OpenSpec.upto fnExactPrintSpec)) fnExactPrintUptoCard

/-- THE SECOND FORM's CARD OF 'laws.FnExactParse'. -/
def fnExactParseUptoCard : Claim7 := { stood := { row := fnExactParseUptoRow, standIns := [], harness := (true, "4e3d85be510023ad1ea55354940b0eda3824eb405225e0444297d2af1764754c"), looks := true }, kinds := [], alts := [], laidByText := true, laidKinds := [.data, .data, .data, .sentinel, .sentinel, .data, .data, .data], laidTests := true, laidLooks := .later }
def FnExactParseUptoCardSaid : Prop := Claim7.holds Tryz.pinned (.plain (OpenSpec.upto fnExactParseSpec)) fnExactParseUptoCard

/-- THE SECOND FORM's CARD OF 'laws.FnExactAnswer'. -/
def fnExactAnswerUptoCard : Claim7 := { stood := { row := fnExactAnswerUptoRow, standIns := [], harness := (true, "4e3d85be510023ad1ea55354940b0eda3824eb405225e0444297d2af1764754c"), looks := true }, kinds := [], alts := [], laidByText := true, laidKinds := [.data, .data, .data, .sentinel, .sentinel, .data, .data, .data], laidTests := true, laidLooks := .later }
def FnExactAnswerUptoCardSaid : Prop := Claim7.holds Tryz.pinned (.plain (OpenSpec.upto fnExactAnswerSpec)) fnExactAnswerUptoCard

/-- THE SECOND FORM's CARD OF 'laws.FnExactTidied'. -/
def fnExactTidiedUptoCard : Claim7 := { stood := { row := fnExactTidiedUptoRow, standIns := [], harness := (true, "4e3d85be510023ad1ea55354940b0eda3824eb405225e0444297d2af1764754c"), looks := true }, kinds := [], alts := [], laidByText := true, laidKinds := [.data, .data, .data, .sentinel, .sentinel, .data, .data, .data], laidTests := true, laidLooks := .later }
def FnExactTidiedUptoCardSaid : Prop := Claim7.holds Tryz.pinned (.plain (OpenSpec.upto fnExactTidiedSpec)) fnExactTidiedUptoCard
end Rows
end Go.Proofs.YtnoddjddkbhnbaaGreatDoor
