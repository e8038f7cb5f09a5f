/-
  DERIVED. GIVEN WITH THE SEED: THE CARDS: each row of YtnhhcfbigjpfeaaGreatDoorRows.lean that lists a variable, with what it lists TIED to the program's text (the seventh form; the later family's looks); each row that meets fmt, with fmt's text TOLD by the authors' own Lean function (tested against real Go, not proved from fmt's source: count such statements apart). THE CARD IS WHAT COUNTS. Prove the row's statement (the work); the ties are given (YtnhhcfbigjpfeaaGreatDoorTie.lean); close each card by the builder's one call (the guide's Derived/Test/ToyasCard.lean, 'card_holds'). Laid BY PROGRAM, IN A SANDBOX (cutbox-door.mjs). By AI agents, Wed Nov 11 2026. No macro, syntax, notation, axiom, sorry.
-/
import Derived.Test.YtnhhcfbigjpfeaaGreatDoorRows
import GoSem.ClaimSeven
namespace Go.Proofs.YtnhhcfbigjpfeaaGreatDoor
namespace Rows

/-- THE TIED CARD OF 'laws.FnReport'. -/
def fnReportCard : Claim7 := { stood := { row := fnReportRow, standIns := [], harness := (true, "c2caa07222c33ff1aa2354b5c273a58581e48dc4f1fac9b7f6ed0741520298b3"), looks := false }, kinds := [], alts := [], laidByText := true, laidKinds := [.data, .data, .data], laidTests := true, laidLooks := .later }
def FnReportCardSaid : Prop := Claim7.holds Tryz.pinned (.plain (OpenSpec.ofChange fnReportSpec)) fnReportCard

/-- THE TIED CARD OF 'laws.FnReportEmpty'. -/
def fnReportEmptyCard : Claim7 := { stood := { row := fnReportEmptyRow, standIns := [], harness := (true, "c2caa07222c33ff1aa2354b5c273a58581e48dc4f1fac9b7f6ed0741520298b3"), looks := false }, kinds := [], alts := [], laidByText := true, laidKinds := [.data, .data, .data], laidTests := true, laidLooks := .later }
def FnReportEmptyCardSaid : Prop := Claim7.holds Tryz.pinned (.plain (OpenSpec.ofChange fnReportEmptySpec)) fnReportEmptyCard

/-- THE TIED CARD OF 'laws.FnReportFound'. -/
def fnReportFoundCard : Claim7 := { stood := { row := fnReportFoundRow, standIns := [], harness := (true, "c2caa07222c33ff1aa2354b5c273a58581e48dc4f1fac9b7f6ed0741520298b3"), looks := false }, kinds := [], alts := [], laidByText := true, laidKinds := [.data, .data, .data], laidTests := true, laidLooks := .later }
def FnReportFoundCardSaid : Prop := Claim7.holds Tryz.pinned (.plain (OpenSpec.ofChange fnReportFoundSpec)) fnReportFoundCard

/-- THE TIED CARD OF 'laws.FnReportLines'. -/
def fnReportLinesCard : Claim7 := { stood := { row := fnReportLinesRow, standIns := [], harness := (true, "c2caa07222c33ff1aa2354b5c273a58581e48dc4f1fac9b7f6ed0741520298b3"), looks := false }, kinds := [], alts := [], laidByText := true, laidKinds := [.data, .data, .data], laidTests := true, laidLooks := .later }
def FnReportLinesCardSaid : Prop := Claim7.holds Tryz.pinned (.plain (OpenSpec.ofChange fnReportLinesSpec)) fnReportLinesCard

/-- THE SECOND FORM's CARD OF 'laws.FnReport'. -/
def fnReportUptoCard : Claim7 := { stood := { row := fnReportUptoRow, standIns := [], harness := (true, "c2caa07222c33ff1aa2354b5c273a58581e48dc4f1fac9b7f6ed0741520298b3"), looks := false }, kinds := [], alts := [], laidByText := true, laidKinds := [.data, .data, .data], laidTests := true, laidLooks := .later }
def FnReportUptoCardSaid : Prop := Claim7.holds Tryz.pinned (.plain (OpenSpec.upto fnReportSpec)) fnReportUptoCard

/-- THE SECOND FORM's CARD OF 'laws.FnReportEmpty'. -/
def fnReportEmptyUptoCard : Claim7 := { stood := { row := fnReportEmptyUptoRow, standIns := [], harness := (true, "c2caa07222c33ff1aa2354b5c273a58581e48dc4f1fac9b7f6ed0741520298b3"), looks := false }, kinds := [], alts := [], laidByText := true, laidKinds := [.data, .data, .data], laidTests := true, laidLooks := .later }
def FnReportEmptyUptoCardSaid : Prop := Claim7.holds Tryz.pinned (.plain (OpenSpec.upto fnReportEmptySpec)) fnReportEmptyUptoCard

/-- THE SECOND FORM's CARD OF 'laws.FnReportFound'. -/
def fnReportFoundUptoCard : Claim7 := { stood := { row := fnReportFoundUptoRow, standIns := [], harness := (true, "c2caa07222c33ff1aa2354b5c273a58581e48dc4f1fac9b7f6ed0741520298b3"), looks := false }, kinds := [], alts := [], laidByText := true, laidKinds := [.data, .data, .data], laidTests := true, laidLooks := .later }
def FnReportFoundUptoCardSaid : Prop := Claim7.holds Tryz.pinned (.plain (OpenSpec.upto fnReportFoundSpec)) fnReportFoundUptoCard

/-- THE SECOND FORM's CARD OF 'laws.FnReportLines'. -/
def fnReportLinesUptoCard : Claim7 := { stood := { row := fnReportLinesUptoRow, standIns := [], harness := (true, "c2caa07222c33ff1aa2354b5c273a58581e48dc4f1fac9b7f6ed0741520298b3"), looks := false }, kinds := [], alts := [], laidByText := true, laidKinds := [.data, .data, .data], laidTests := true, laidLooks := .later }
def FnReportLinesUptoCardSaid : Prop := Claim7.holds Tryz.pinned (.plain (OpenSpec.upto fnReportLinesSpec)) fnReportLinesUptoCard
end Rows
end Go.Proofs.YtnhhcfbigjpfeaaGreatDoor
