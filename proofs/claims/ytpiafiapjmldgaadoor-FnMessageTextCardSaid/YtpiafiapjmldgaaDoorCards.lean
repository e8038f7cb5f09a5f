/-
  DERIVED. GIVEN WITH THE SEED: THE CARDS: each row of YtpiafiapjmldgaaDoorRows.lean that lists a variable, with what it lists TIED to the program's text (the seventh form; the later family's looks); each row that meets fmt, with fmt's text TOLD by the authors' own Lean function (tested against real Go, not proved from fmt's source: count such statements apart). THE CARD IS WHAT COUNTS. Prove the row's statement (the work); the ties are given (YtpiafiapjmldgaaDoorTie.lean); close each card by the builder's one call (the guide's Derived/Test/ToyasCard.lean, 'card_holds'). Laid BY PROGRAM, IN A SANDBOX (cutbox-door.mjs). By AI agents, Wed Nov 11 2026. No macro, syntax, notation, axiom, sorry.
-/
import Derived.Test.YtpiafiapjmldgaaDoorRows
import GoSem.ClaimSeven
namespace Go.Proofs.YtpiafiapjmldgaaDoor
namespace Rows

/-- THE TIED CARD OF 'laws.FnExactMessageText'. -/
def fnExactMessageTextCard : Claim7 := { stood := { row := fnExactMessageTextRow, standIns := [], harness := (true, "5bc8eaa62b74d9262af8f02e0ea7297ace50cd169685318e9e7dcb45d1a4087b"), looks := false }, kinds := [], alts := [], laidByText := true, laidKinds := [.data, .data, .data], laidTests := true, laidLooks := .later }
def FnExactMessageTextCardSaid : Prop := Claim7.holds Tryd.pinned (.plain (OpenSpec.ofChange fnExactMessageTextSpec)) fnExactMessageTextCard

/-- THE TIED CARD OF 'laws.FnMessageLoose'. -/
def fnMessageLooseCard : Claim7 := { stood := { row := fnMessageLooseRow, standIns := [], harness := (true, "5bc8eaa62b74d9262af8f02e0ea7297ace50cd169685318e9e7dcb45d1a4087b"), looks := false }, kinds := [], alts := [], laidByText := true, laidKinds := [.data, .data, .data], laidTests := true, laidLooks := .later }
def FnMessageLooseCardSaid : Prop := Claim7.holds Tryd.pinned (.plain (OpenSpec.ofChange fnMessageLooseSpec)) fnMessageLooseCard

/-- THE TIED CARD OF 'laws.FnExactFindingsText'. -/
def fnExactFindingsTextCard : Claim7 := { stood := { row := fnExactFindingsTextRow, standIns := [], harness := (true, "5bc8eaa62b74d9262af8f02e0ea7297ace50cd169685318e9e7dcb45d1a4087b"), looks := false }, kinds := [], alts := [], laidByText := true, laidKinds := [.data, .data, .data], laidTests := true, laidLooks := .later }
def FnExactFindingsTextCardSaid : Prop := Claim7.holds Tryd.pinned (.plain (OpenSpec.ofChange fnExactFindingsTextSpec)) fnExactFindingsTextCard

/-- THE TIED CARD OF 'laws.FnMessageText'. -/
def fnMessageTextCard : Claim7 := { stood := { row := fnMessageTextRow, standIns := [], harness := (true, "5bc8eaa62b74d9262af8f02e0ea7297ace50cd169685318e9e7dcb45d1a4087b"), looks := false }, kinds := [], alts := [], laidByText := true, laidKinds := [.data, .data, .data], laidTests := true, laidLooks := .later }
def FnMessageTextCardSaid : Prop := Claim7.holds Tryd.pinned (.plain (OpenSpec.ofChange fnMessageTextSpec)) fnMessageTextCard

/-- THE TIED CARD OF 'laws.FnFindings'. -/
def fnFindingsCard : Claim7 := { stood := { row := fnFindingsRow, standIns := [], harness := (true, "5bc8eaa62b74d9262af8f02e0ea7297ace50cd169685318e9e7dcb45d1a4087b"), looks := false }, kinds := [], alts := [], laidByText := true, laidKinds := [.data, .data, .data], laidTests := true, laidLooks := .later }
def FnFindingsCardSaid : Prop := Claim7.holds Tryd.pinned (.plain (OpenSpec.ofChange fnFindingsSpec)) fnFindingsCard

/-- THE TIED CARD OF 'laws.FnFindingsParse'. -/
def fnFindingsParseCard : Claim7 := { stood := { row := fnFindingsParseRow, standIns := [], harness := (true, "5bc8eaa62b74d9262af8f02e0ea7297ace50cd169685318e9e7dcb45d1a4087b"), looks := false }, kinds := [], alts := [], laidByText := true, laidKinds := [.data, .data, .data], laidTests := true, laidLooks := .later }
def FnFindingsParseCardSaid : Prop := Claim7.holds Tryd.pinned (.plain (OpenSpec.ofChange fnFindingsParseSpec)) fnFindingsParseCard

/-- THE SECOND FORM's CARD OF 'laws.FnExactMessageText'. -/
def fnExactMessageTextUptoCard : Claim7 := { stood := { row := fnExactMessageTextUptoRow, standIns := [], harness := (true, "5bc8eaa62b74d9262af8f02e0ea7297ace50cd169685318e9e7dcb45d1a4087b"), looks := false }, kinds := [], alts := [], laidByText := true, laidKinds := [.data, .data, .data], laidTests := true, laidLooks := .later }
def FnExactMessageTextUptoCardSaid : Prop := Claim7.holds Tryd.pinned (.plain (OpenSpec.upto fnExactMessageTextSpec)) fnExactMessageTextUptoCard

/-- THE SECOND FORM's CARD OF 'laws.FnMessageLoose'. -/
def fnMessageLooseUptoCard : Claim7 := { stood := { row := fnMessageLooseUptoRow, standIns := [], harness := (true, "5bc8eaa62b74d9262af8f02e0ea7297ace50cd169685318e9e7dcb45d1a4087b"), looks := false }, kinds := [], alts := [], laidByText := true, laidKinds := [.data, .data, .data], laidTests := true, laidLooks := .later }
def FnMessageLooseUptoCardSaid : Prop := Claim7.holds Tryd.pinned (.plain (OpenSpec.upto fnMessageLooseSpec)) fnMessageLooseUptoCard

/-- THE SECOND FORM's CARD OF 'laws.FnExactFindingsText'. -/
def fnExactFindingsTextUptoCard : Claim7 := { stood := { row := fnExactFindingsTextUptoRow, standIns := [], harness := (true, "5bc8eaa62b74d9262af8f02e0ea7297ace50cd169685318e9e7dcb45d1a4087b"), looks := false }, kinds := [], alts := [], laidByText := true, laidKinds := [.data, .data, .data], laidTests := true, laidLooks := .later }
def FnExactFindingsTextUptoCardSaid : Prop := Claim7.holds Tryd.pinned (.plain (OpenSpec.upto fnExactFindingsTextSpec)) fnExactFindingsTextUptoCard

/-- THE SECOND FORM's CARD OF 'laws.FnMessageText'. -/
def fnMessageTextUptoCard : Claim7 := { stood := { row := fnMessageTextUptoRow, standIns := [], harness := (true, "5bc8eaa62b74d9262af8f02e0ea7297ace50cd169685318e9e7dcb45d1a4087b"), looks := false }, kinds := [], alts := [], laidByText := true, laidKinds := [.data, .data, .data], laidTests := true, laidLooks := .later }
def FnMessageTextUptoCardSaid : Prop := Claim7.holds Tryd.pinned (.plain (OpenSpec.upto fnMessageTextSpec)) fnMessageTextUptoCard

/-- THE SECOND FORM's CARD OF 'laws.FnFindings'. -/
def fnFindingsUptoCard : Claim7 := { stood := { row := fnFindingsUptoRow, standIns := [], harness := (true, "5bc8eaa62b74d9262af8f02e0ea7297ace50cd169685318e9e7dcb45d1a4087b"), looks := false }, kinds := [], alts := [], laidByText := true, laidKinds := [.data, .data, .data], laidTests := true, laidLooks := .later }
def FnFindingsUptoCardSaid : Prop := Claim7.holds Tryd.pinned (.plain (OpenSpec.upto fnFindingsSpec)) fnFindingsUptoCard

/-- THE SECOND FORM's CARD OF 'laws.FnFindingsParse'. -/
def fnFindingsParseUptoCard : Claim7 := { stood := { row := fnFindingsParseUptoRow, standIns := [], harness := (true, "5bc8eaa62b74d9262af8f02e0ea7297ace50cd169685318e9e7dcb45d1a4087b"), looks := false }, kinds := [], alts := [], laidByText := true, laidKinds := [.data, .data, .data], laidTests := true, laidLooks := .later }
def FnFindingsParseUptoCardSaid : Prop := Claim7.holds Tryd.pinned (.plain (OpenSpec.upto fnFindingsParseSpec)) fnFindingsParseUptoCard
end Rows
end Go.Proofs.YtpiafiapjmldgaaDoor
