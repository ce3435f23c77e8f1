/-
  DERIVED. GIVEN WITH THE SEED: THE CARDS: each row of YtlmedbpejncppaaGreatDoorRows.lean that lists a variable, with what it lists TIED to the program's text (the seventh form; the later family's looks); each row that meets fmt, with fmt's text TOLD by the authors' own Lean function (tested against real Go, not proved from fmt's source: count such statements apart). THE CARD IS WHAT COUNTS. Prove the row's statement (the work); the ties are given (YtlmedbpejncppaaGreatDoorTie.lean); close each card by the builder's one call (the guide's Derived/Test/ToyasCard.lean, 'card_holds'). Laid BY PROGRAM, IN A SANDBOX (cutbox-door.mjs). By AI agents, Wed Nov 11 2026. No macro, syntax, notation, axiom, sorry.
-/
import Derived.Test.YtlmedbpejncppaaGreatDoorRows
import GoSem.ClaimSeven
namespace Go.Proofs.YtlmedbpejncppaaGreatDoor
namespace Rows

/-- THE TIED CARD OF 'quitrentlaw24.CensusNobody'. -/
def censusNobodyCard : Claim7 := { stood := { row := censusNobodyRow, standIns := [], harness := (true, "5d691657e5aa4fadd8b512a0fe9c990e4e48f69f0ac5530b8cae6a955891fa01"), looks := false }, kinds := [], alts := [], laidByText := true, laidKinds := [.data], laidTests := true, laidLooks := .later }
def CensusNobodyCardSaid : Prop := Claim7.holds Tryz.pinned (.plain (OpenSpec.ofChange censusNobodySpec)) censusNobodyCard

/-- THE TIED CARD OF 'quitrentlaw33.ReportNobody'. -/
def reportNobodyCard : Claim7 := { stood := { row := reportNobodyRow, standIns := [], harness := (true, "5d691657e5aa4fadd8b512a0fe9c990e4e48f69f0ac5530b8cae6a955891fa01"), looks := false }, kinds := [], alts := [], laidByText := true, laidKinds := [.data], laidTests := true, laidLooks := .later }
def ReportNobodyCardSaid : Prop := Claim7.holds Tryz.pinned (.plain (OpenSpec.ofChange reportNobodySpec)) reportNobodyCard

/-- THE TIED CARD OF 'quitrentlaw33.ReportChanges'. -/
def reportChangesCard : Claim7 := { stood := { row := reportChangesRow, standIns := [], harness := (true, "5d691657e5aa4fadd8b512a0fe9c990e4e48f69f0ac5530b8cae6a955891fa01"), looks := false }, kinds := [], alts := [], laidByText := true, laidKinds := [.data], laidTests := true, laidLooks := .later }
def ReportChangesCardSaid : Prop := Claim7.holds Tryz.pinned (.plain (OpenSpec.ofChange reportChangesSpec)) reportChangesCard

/-- THE SECOND FORM's CARD OF 'quitrentlaw24.CensusNobody'. -/
def censusNobodyUptoCard : Claim7 := { stood := { row := censusNobodyUptoRow, standIns := [], harness := (true, "5d691657e5aa4fadd8b512a0fe9c990e4e48f69f0ac5530b8cae6a955891fa01"), looks := false }, kinds := [], alts := [], laidByText := true, laidKinds := [.data], laidTests := true, laidLooks := .later }
def CensusNobodyUptoCardSaid : Prop := Claim7.holds Tryz.pinned (.plain (OpenSpec.upto censusNobodySpec)) censusNobodyUptoCard

/-- THE SECOND FORM's CARD OF 'quitrentlaw33.ReportNobody'. -/
def reportNobodyUptoCard : Claim7 := { stood := { row := reportNobodyUptoRow, standIns := [], harness := (true, "5d691657e5aa4fadd8b512a0fe9c990e4e48f69f0ac5530b8cae6a955891fa01"), looks := false }, kinds := [], alts := [], laidByText := true, laidKinds := [.data], laidTests := true, laidLooks := .later }
def ReportNobodyUptoCardSaid : Prop := Claim7.holds Tryz.pinned (.plain (OpenSpec.upto reportNobodySpec)) reportNobodyUptoCard

/-- THE SECOND FORM's CARD OF 'quitrentlaw33.ReportChanges'. -/
def reportChangesUptoCard : Claim7 := { stood := { row := reportChangesUptoRow, standIns := [], harness := (true, "5d691657e5aa4fadd8b512a0fe9c990e4e48f69f0ac5530b8cae6a955891fa01"), looks := false }, kinds := [], alts := [], laidByText := true, laidKinds := [.data], laidTests := true, laidLooks := .later }
def ReportChangesUptoCardSaid : Prop := Claim7.holds Tryz.pinned (.plain (OpenSpec.upto reportChangesSpec)) reportChangesUptoCard
end Rows
end Go.Proofs.YtlmedbpejncppaaGreatDoor
