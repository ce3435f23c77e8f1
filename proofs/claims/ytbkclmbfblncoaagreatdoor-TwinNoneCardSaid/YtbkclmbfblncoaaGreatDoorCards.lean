/-
  DERIVED. GIVEN WITH THE SEED: THE CARDS: each row of YtbkclmbfblncoaaGreatDoorRows.lean that lists a variable, with what it lists TIED to the program's text (the seventh form; the later family's looks); each row that meets fmt, with fmt's text TOLD by the authors' own Lean function (tested against real Go, not proved from fmt's source: count such statements apart). THE CARD IS WHAT COUNTS. Prove the row's statement (the work); the ties are given (YtbkclmbfblncoaaGreatDoorTie.lean); close each card by the builder's one call (the guide's Derived/Test/ToyasCard.lean, 'card_holds'). Laid BY PROGRAM, IN A SANDBOX (cutbox-door.mjs). By AI agents, Wed Nov 11 2026. No macro, syntax, notation, axiom, sorry.
-/
import Derived.Test.YtbkclmbfblncoaaGreatDoorRows
import GoSem.ClaimSeven
namespace Go.Proofs.YtbkclmbfblncoaaGreatDoor
namespace Rows

/-- THE TIED CARD OF 'quitrentlaw26.TwinNone'. -/
def twinNoneCard : Claim7 := { stood := { row := twinNoneRow, standIns := [], harness := (true, "b6664743660f63108d26ecc0a87bf81e2cb2cf60f283936baefef274e78627bf"), looks := false }, kinds := [], alts := [], laidByText := true, laidKinds := [.data, .data], laidTests := true, laidLooks := .later }
def TwinNoneCardSaid : Prop := Claim7.holds Tryz.pinned (.plain (OpenSpec.ofChange twinNoneSpec)) twinNoneCard

/-- THE SECOND FORM's CARD OF 'quitrentlaw26.TwinNone'. -/
def twinNoneUptoCard : Claim7 := { stood := { row := twinNoneUptoRow, standIns := [], harness := (true, "b6664743660f63108d26ecc0a87bf81e2cb2cf60f283936baefef274e78627bf"), looks := false }, kinds := [], alts := [], laidByText := true, laidKinds := [.data, .data], laidTests := true, laidLooks := .later }
def TwinNoneUptoCardSaid : Prop := Claim7.holds Tryz.pinned (.plain (OpenSpec.upto twinNoneSpec)) twinNoneUptoCard
end Rows
end Go.Proofs.YtbkclmbfblncoaaGreatDoor
