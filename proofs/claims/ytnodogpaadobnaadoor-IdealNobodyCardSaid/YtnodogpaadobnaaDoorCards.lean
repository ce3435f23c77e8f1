/-
  DERIVED. GIVEN WITH THE SEED: THE CARDS: each row of YtnodogpaadobnaaDoorRows.lean that lists a variable, with what it lists TIED to the program's text (the seventh form; the later family's looks); each row that meets fmt, with fmt's text TOLD by the authors' own Lean function (tested against real Go, not proved from fmt's source: count such statements apart). THE CARD IS WHAT COUNTS. Prove the row's statement (the work); the ties are given (YtnodogpaadobnaaDoorTie.lean); close each card by the builder's one call (the guide's Derived/Test/ToyasCard.lean, 'card_holds'). Laid BY PROGRAM, IN A SANDBOX (cutbox-door.mjs). By AI agents, Wed Nov 11 2026. No macro, syntax, notation, axiom, sorry.
-/
import Derived.Test.YtnodogpaadobnaaDoorRows
import GoSem.ClaimSeven
namespace Go.Proofs.YtnodogpaadobnaaDoor
namespace Rows

/-- THE TIED CARD OF 'quitrentlaw25.AuditWords'. -/
def auditWordsCard : Claim7 := { stood := { row := auditWordsRow, standIns := [], harness := (true, "ea578d624dd26d03e99359cb29d48b67e5cc564440e827ba52874fea916c593d"), looks := false }, kinds := [], alts := [], laidByText := true, laidKinds := [.data], laidTests := true, laidLooks := .later }
def AuditWordsCardSaid : Prop := Claim7.holds Tryd.pinned (.plain (OpenSpec.ofChange auditWordsSpec)) auditWordsCard

/-- THE TIED CARD OF 'quitrentlaw23.IdealGone'. -/
def idealGoneCard : Claim7 := { stood := { row := idealGoneRow, standIns := [], harness := (true, "ea578d624dd26d03e99359cb29d48b67e5cc564440e827ba52874fea916c593d"), looks := false }, kinds := [], alts := [], laidByText := true, laidKinds := [.data], laidTests := true, laidLooks := .later }
def IdealGoneCardSaid : Prop := Claim7.holds Tryd.pinned (.plain (OpenSpec.ofChange idealGoneSpec)) idealGoneCard

/-- THE TIED CARD OF 'quitrentlaw23.IdealCopies'. -/
def idealCopiesCard : Claim7 := { stood := { row := idealCopiesRow, standIns := [], harness := (true, "ea578d624dd26d03e99359cb29d48b67e5cc564440e827ba52874fea916c593d"), looks := false }, kinds := [], alts := [], laidByText := true, laidKinds := [.data], laidTests := true, laidLooks := .later }
def IdealCopiesCardSaid : Prop := Claim7.holds Tryd.pinned (.plain (OpenSpec.ofChange idealCopiesSpec)) idealCopiesCard

/-- THE TIED CARD OF 'quitrentlaw23.IdealPlays'. -/
def idealPlaysCard : Claim7 := { stood := { row := idealPlaysRow, standIns := [], harness := (true, "ea578d624dd26d03e99359cb29d48b67e5cc564440e827ba52874fea916c593d"), looks := false }, kinds := [], alts := [], laidByText := true, laidKinds := [.data], laidTests := true, laidLooks := .later }
def IdealPlaysCardSaid : Prop := Claim7.holds Tryd.pinned (.plain (OpenSpec.ofChange idealPlaysSpec)) idealPlaysCard

/-- THE TIED CARD OF 'quitrentlaw23.IdealNobody'. -/
def idealNobodyCard : Claim7 := { stood := { row := idealNobodyRow, standIns := [], harness := (true, "ea578d624dd26d03e99359cb29d48b67e5cc564440e827ba52874fea916c593d"), looks := false }, kinds := [], alts := [], laidByText := true, laidKinds := [.data], laidTests := true, laidLooks := .later }
def IdealNobodyCardSaid : Prop := Claim7.holds Tryd.pinned (.plain (OpenSpec.ofChange idealNobodySpec)) idealNobodyCard

/-- THE SECOND FORM's CARD OF 'quitrentlaw25.AuditWords'. -/
def auditWordsUptoCard : Claim7 := { stood := { row := auditWordsUptoRow, standIns := [], harness := (true, "ea578d624dd26d03e99359cb29d48b67e5cc564440e827ba52874fea916c593d"), looks := false }, kinds := [], alts := [], laidByText := true, laidKinds := [.data], laidTests := true, laidLooks := .later }
def AuditWordsUptoCardSaid : Prop := Claim7.holds Tryd.pinned (.plain (OpenSpec.upto auditWordsSpec)) auditWordsUptoCard

/-- THE SECOND FORM's CARD OF 'quitrentlaw23.IdealGone'. -/
def idealGoneUptoCard : Claim7 := { stood := { row := idealGoneUptoRow, standIns := [], harness := (true, "ea578d624dd26d03e99359cb29d48b67e5cc564440e827ba52874fea916c593d"), looks := false }, kinds := [], alts := [], laidByText := true, laidKinds := [.data], laidTests := true, laidLooks := .later }
def IdealGoneUptoCardSaid : Prop := Claim7.holds Tryd.pinned (.plain (OpenSpec.upto idealGoneSpec)) idealGoneUptoCard

/-- THE SECOND FORM's CARD OF 'quitrentlaw23.IdealCopies'. -/
def idealCopiesUptoCard : Claim7 := { stood := { row := idealCopiesUptoRow, standIns := [], harness := (true, "ea578d624dd26d03e99359cb29d48b67e5cc564440e827ba52874fea916c593d"), looks := false }, kinds := [], alts := [], laidByText := true, laidKinds := [.data], laidTests := true, laidLooks := .later }
def IdealCopiesUptoCardSaid : Prop := Claim7.holds Tryd.pinned (.plain (OpenSpec.upto idealCopiesSpec)) idealCopiesUptoCard

/-- THE SECOND FORM's CARD OF 'quitrentlaw23.IdealPlays'. -/
def idealPlaysUptoCard : Claim7 := { stood := { row := idealPlaysUptoRow, standIns := [], harness := (true, "ea578d624dd26d03e99359cb29d48b67e5cc564440e827ba52874fea916c593d"), looks := false }, kinds := [], alts := [], laidByText := true, laidKinds := [.data], laidTests := true, laidLooks := .later }
def IdealPlaysUptoCardSaid : Prop := Claim7.holds Tryd.pinned (.plain (OpenSpec.upto idealPlaysSpec)) idealPlaysUptoCard

/-- THE SECOND FORM's CARD OF 'quitrentlaw23.IdealNobody'. -/
def idealNobodyUptoCard : Claim7 := { stood := { row := idealNobodyUptoRow, standIns := [], harness := (true, "ea578d624dd26d03e99359cb29d48b67e5cc564440e827ba52874fea916c593d"), looks := false }, kinds := [], alts := [], laidByText := true, laidKinds := [.data], laidTests := true, laidLooks := .later }
def IdealNobodyUptoCardSaid : Prop := Claim7.holds Tryd.pinned (.plain (OpenSpec.upto idealNobodySpec)) idealNobodyUptoCard
end Rows
end Go.Proofs.YtnodogpaadobnaaDoor
