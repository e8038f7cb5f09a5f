/-
  DERIVED. GIVEN WITH THE SEED: THE CARDS: each row of YtjkbbdmkgealfaaGreatDoorRows.lean that lists a variable, with what it lists TIED to the program's text (the seventh form; the later family's looks); each row that meets fmt, with fmt's text TOLD by the authors' own Lean function (tested against real Go, not proved from fmt's source: count such statements apart). THE CARD IS WHAT COUNTS. Prove the row's statement (the work); the ties are given (YtjkbbdmkgealfaaGreatDoorTie.lean); close each card by the builder's one call (the guide's Derived/Test/ToyasCard.lean, 'card_holds'). Laid BY PROGRAM, IN A SANDBOX (cutbox-door.mjs). By AI agents, Wed Nov 11 2026. No macro, syntax, notation, axiom, sorry.
-/
import Derived.Test.YtjkbbdmkgealfaaGreatDoorRows
import GoSem.ClaimSeven
namespace Go.Proofs.YtjkbbdmkgealfaaGreatDoor
namespace Rows

/-- THE TIED CARD OF 'laws.FnScript'. -/
def fnScriptCard : Claim7 := { stood := { row := fnScriptRow, standIns := [], harness := (true, "0a5a9a0303a04c3d52f195bd39d15ff6220947977b7709ce5770afb335573c79"), looks := false }, kinds := [], alts := [], laidByText := true, laidKinds := [.data, .data, .data, .data, .pinned], laidTests := true, laidLooks := .later }
def FnScriptCardSaid : Prop := Claim7.holds Tryz.pinned (.plain (OpenSpec.ofChange fnScriptSpec)) fnScriptCard

/-- THE TIED CARD OF 'laws.FnScriptCut'. -/
def fnScriptCutCard : Claim7 := { stood := { row := fnScriptCutRow, standIns := [], harness := (true, "0a5a9a0303a04c3d52f195bd39d15ff6220947977b7709ce5770afb335573c79"), looks := false }, kinds := [], alts := [], laidByText := true, laidKinds := [.data, .data, .data, .data, .pinned], laidTests := true, laidLooks := .later }
def FnScriptCutCardSaid : Prop := Claim7.holds Tryz.pinned (.plain (OpenSpec.ofChange fnScriptCutSpec)) fnScriptCutCard

/-- THE TIED CARD OF 'laws.FnScriptWhat'. -/
def fnScriptWhatCard : Claim7 := { stood := { row := fnScriptWhatRow, standIns := [], harness := (true, "0a5a9a0303a04c3d52f195bd39d15ff6220947977b7709ce5770afb335573c79"), looks := false }, kinds := [], alts := [], laidByText := true, laidKinds := [.data, .data, .data, .data, .pinned], laidTests := true, laidLooks := .later }
def FnScriptWhatCardSaid : Prop := Claim7.holds Tryz.pinned (.plain (OpenSpec.ofChange fnScriptWhatSpec)) fnScriptWhatCard

/-- THE TIED CARD OF 'laws.FnExactExecute'. -/
def fnExactExecuteCard : Claim7 := { stood := { row := fnExactExecuteRow, standIns := [], harness := (true, "0a5a9a0303a04c3d52f195bd39d15ff6220947977b7709ce5770afb335573c79"), looks := false }, kinds := [], alts := [], laidByText := true, laidKinds := [.data, .data, .data, .data, .pinned], laidTests := true, laidLooks := .later }
def FnExactExecuteCardSaid : Prop := Claim7.holds Tryz.pinned (.plain (OpenSpec.ofChange fnExactExecuteSpec)) fnExactExecuteCard

/-- THE TIED CARD OF 'laws.FnScriptDrop'. -/
def fnScriptDropCard : Claim7 := { stood := { row := fnScriptDropRow, standIns := [], harness := (true, "0a5a9a0303a04c3d52f195bd39d15ff6220947977b7709ce5770afb335573c79"), looks := false }, kinds := [], alts := [], laidByText := true, laidKinds := [.data, .data, .data, .data, .pinned], laidTests := true, laidLooks := .later }
def FnScriptDropCardSaid : Prop := Claim7.holds Tryz.pinned (.plain (OpenSpec.ofChange fnScriptDropSpec)) fnScriptDropCard

/-- THE TIED CARD OF 'laws.FnScriptFlip'. -/
def fnScriptFlipCard : Claim7 := { stood := { row := fnScriptFlipRow, standIns := [], harness := (true, "0a5a9a0303a04c3d52f195bd39d15ff6220947977b7709ce5770afb335573c79"), looks := false }, kinds := [], alts := [], laidByText := true, laidKinds := [.data, .data, .data, .data, .pinned], laidTests := true, laidLooks := .later }
def FnScriptFlipCardSaid : Prop := Claim7.holds Tryz.pinned (.plain (OpenSpec.ofChange fnScriptFlipSpec)) fnScriptFlipCard

/-- THE TIED CARD OF 'laws.FnScriptLoose'. -/
def fnScriptLooseCard : Claim7 := { stood := { row := fnScriptLooseRow, standIns := [], harness := (true, "0a5a9a0303a04c3d52f195bd39d15ff6220947977b7709ce5770afb335573c79"), looks := false }, kinds := [], alts := [], laidByText := true, laidKinds := [.data, .data, .data, .data, .pinned], laidTests := true, laidLooks := .later }
def FnScriptLooseCardSaid : Prop := Claim7.holds Tryz.pinned (.plain (OpenSpec.ofChange fnScriptLooseSpec)) fnScriptLooseCard

/-- THE TIED CARD OF 'laws.FnScriptNo'. -/
def fnScriptNoCard : Claim7 := { stood := { row := fnScriptNoRow, standIns := [], harness := (true, "0a5a9a0303a04c3d52f195bd39d15ff6220947977b7709ce5770afb335573c79"), looks := false }, kinds := [], alts := [], laidByText := true, laidKinds := [.data, .data, .data, .data, .pinned], laidTests := true, laidLooks := .later }
def FnScriptNoCardSaid : Prop := Claim7.holds Tryz.pinned (.plain (OpenSpec.ofChange fnScriptNoSpec)) fnScriptNoCard

/-- THE TIED CARD OF 'laws.FnScriptTalk'. -/
def fnScriptTalkCard : Claim7 := { stood := { row := fnScriptTalkRow, standIns := [], harness := (true, "0a5a9a0303a04c3d52f195bd39d15ff6220947977b7709ce5770afb335573c79"), looks := false }, kinds := [], alts := [], laidByText := true, laidKinds := [.data, .data, .data, .data, .pinned], laidTests := true, laidLooks := .later }
def FnScriptTalkCardSaid : Prop := Claim7.holds Tryz.pinned (.plain (OpenSpec.ofChange fnScriptTalkSpec)) fnScriptTalkCard

/-- THE SECOND FORM's CARD OF 'laws.FnScript'. -/
def fnScriptUptoCard : Claim7 := { stood := { row := fnScriptUptoRow, standIns := [], harness := (true, "0a5a9a0303a04c3d52f195bd39d15ff6220947977b7709ce5770afb335573c79"), looks := false }, kinds := [], alts := [], laidByText := true, laidKinds := [.data, .data, .data, .data, .pinned], laidTests := true, laidLooks := .later }
def FnScriptUptoCardSaid : Prop := Claim7.holds Tryz.pinned (.plain (OpenSpec.upto fnScriptSpec)) fnScriptUptoCard

/-- THE SECOND FORM's CARD OF 'laws.FnScriptCut'. -/
def fnScriptCutUptoCard : Claim7 := { stood := { row := fnScriptCutUptoRow, standIns := [], harness := (true, "0a5a9a0303a04c3d52f195bd39d15ff6220947977b7709ce5770afb335573c79"), looks := false }, kinds := [], alts := [], laidByText := true, laidKinds := [.data, .data, .data, .data, .pinned], laidTests := true, laidLooks := .later }
def FnScriptCutUptoCardSaid : Prop := Claim7.holds Tryz.pinned (.plain (OpenSpec.upto fnScriptCutSpec)) fnScriptCutUptoCard

/-- THE SECOND FORM's CARD OF 'laws.FnScriptWhat'. -/
def fnScriptWhatUptoCard : Claim7 := { stood := { row := fnScriptWhatUptoRow, standIns := [], harness := (true, "0a5a9a0303a04c3d52f195bd39d15ff6220947977b7709ce5770afb335573c79"), looks := false }, kinds := [], alts := [], laidByText := true, laidKinds := [.data, .data, .data, .data, .pinned], laidTests := true, laidLooks := .later }
def FnScriptWhatUptoCardSaid : Prop := Claim7.holds Tryz.pinned (.plain (OpenSpec.upto fnScriptWhatSpec)) fnScriptWhatUptoCard

/-- THE SECOND FORM's CARD OF 'laws.FnExactExecute'. -/
def fnExactExecuteUptoCard : Claim7 := { stood := { row := fnExactExecuteUptoRow, standIns := [], harness := (true, "0a5a9a0303a04c3d52f195bd39d15ff6220947977b7709ce5770afb335573c79"), looks := false }, kinds := [], alts := [], laidByText := true, laidKinds := [.data, .data, .data, .data, .pinned], laidTests := true, laidLooks := .later }
def FnExactExecuteUptoCardSaid : Prop := Claim7.holds Tryz.pinned (.plain (OpenSpec.upto fnExactExecuteSpec)) fnExactExecuteUptoCard

/-- THE SECOND FORM's CARD OF 'laws.FnScriptDrop'. -/
def fnScriptDropUptoCard : Claim7 := { stood := { row := fnScriptDropUptoRow, standIns := [], harness := (true, "0a5a9a0303a04c3d52f195bd39d15ff6220947977b7709ce5770afb335573c79"), looks := false }, kinds := [], alts := [], laidByText := true, laidKinds := [.data, .data, .data, .data, .pinned], laidTests := true, laidLooks := .later }
def FnScriptDropUptoCardSaid : Prop := Claim7.holds Tryz.pinned (.plain (OpenSpec.upto fnScriptDropSpec)) fnScriptDropUptoCard

/-- THE SECOND FORM's CARD OF 'laws.FnScriptFlip'. -/
def fnScriptFlipUptoCard : Claim7 := { stood := { row := fnScriptFlipUptoRow, standIns := [], harness := (true, "0a5a9a0303a04c3d52f195bd39d15ff6220947977b7709ce5770afb335573c79"), looks := false }, kinds := [], alts := [], laidByText := true, laidKinds := [.data, .data, .data, .data, .pinned], laidTests := true, laidLooks := .later }
def FnScriptFlipUptoCardSaid : Prop := Claim7.holds Tryz.pinned (.plain (OpenSpec.upto fnScriptFlipSpec)) fnScriptFlipUptoCard

/-- THE SECOND FORM's CARD OF 'laws.FnScriptLoose'. -/
def fnScriptLooseUptoCard : Claim7 := { stood := { row := fnScriptLooseUptoRow, standIns := [], harness := (true, "0a5a9a0303a04c3d52f195bd39d15ff6220947977b7709ce5770afb335573c79"), looks := false }, kinds := [], alts := [], laidByText := true, laidKinds := [.data, .data, .data, .data, .pinned], laidTests := true, laidLooks := .later }
def FnScriptLooseUptoCardSaid : Prop := Claim7.holds Tryz.pinned (.plain (OpenSpec.upto fnScriptLooseSpec)) fnScriptLooseUptoCard

/-- THE SECOND FORM's CARD OF 'laws.FnScriptNo'. -/
def fnScriptNoUptoCard : Claim7 := { stood := { row := fnScriptNoUptoRow, standIns := [], harness := (true, "0a5a9a0303a04c3d52f195bd39d15ff6220947977b7709ce5770afb335573c79"), looks := false }, kinds := [], alts := [], laidByText := true, laidKinds := [.data, .data, .data, .data, .pinned], laidTests := true, laidLooks := .later }
def FnScriptNoUptoCardSaid : Prop := Claim7.holds Tryz.pinned (.plain (OpenSpec.upto fnScriptNoSpec)) fnScriptNoUptoCard

/-- THE SECOND FORM's CARD OF 'laws.FnScriptTalk'. -/
def fnScriptTalkUptoCard : Claim7 := { stood := { row := fnScriptTalkUptoRow, standIns := [], harness := (true, "0a5a9a0303a04c3d52f195bd39d15ff6220947977b7709ce5770afb335573c79"), looks := false }, kinds := [], alts := [], laidByText := true, laidKinds := [.data, .data, .data, .data, .pinned], laidTests := true, laidLooks := .later }
def FnScriptTalkUptoCardSaid : Prop := Claim7.holds Tryz.pinned (.plain (OpenSpec.upto fnScriptTalkSpec)) fnScriptTalkUptoCard
end Rows
end Go.Proofs.YtjkbbdmkgealfaaGreatDoor
