/-
  NARROWER THAN 'FOR EVERY INPUT', by the rows' own cells (each row's printed sentence says how): CensusNobody: laid · ReportNobody: laid · ReportChanges: laid.
  DERIVED. THE GIVEN ROWS OF THIS SEAT. 3 by the template 'for every input the law returns true; each argument reads behind the call as it read before'; 0 by the template 'total and deterministic' (their statements: YtlmedbpejncppaaGreatDoorTotals.lean).
  GIVEN WITH THE SEED: the statements are not yours to turn. If you find one false, say at which input.
  Laid BY PROGRAM, IN A SANDBOX (cutbox-rows.mjs): the forced cells as the released guide's own fill.sh prints them over the translation 133024ae04b0bbba… (all of the seat's roots in one cut). By AI agents, Wed Nov 11 2026. No macro, syntax, notation, axiom, sorry.
-/
import Derived.Test.YtlmedbpejncppaaGreatDoorChecked
import GoSem.Claim
import GoSem.ClaimJoined
import GoSem.ClaimMapViews
import Derived.JoinedTies
import Derived.KernelRfl
namespace Go.Proofs.YtlmedbpejncppaaGreatDoor
/- THE CELL 'sum', in the pinned program and in every row, IS THE sha256 OF THE DUMP (.gsa) THAT YtlmedbpejncppaaGreatDoorProg.lean LOADS. Nothing in Lean hashes anything: it is a label: what it is worth is what the hold of that sum in a sandbox is worth. -/
noncomputable def Tryz.pinned : Pinned := { name := "ytlmedbpejncppaagreatdoor", sum := "133024ae04b0bbbaf4ab0cc619a282bc796a3bacccb9a036d37aae3bbdc351fb", checked := Tryz.checked }
namespace Rows
def none {H : Type} : Left H := { results := [], args := [] }

/- WHAT THE LISTED PACKAGE-LEVEL VARIABLES READ AS WHEN THE CALL BEGINS. Each datum BY PROGRAM (the guide's laid-datum.mjs) off the statement by which the dump's own 'gosem.cut.vars' lays the variable. In a bare row this is a premise. The card (YtlmedbpejncppaaGreatDoorCards.lean) ties it to the program's text. -/
def laid_quitrent_tag_none {H : Type} : DataW H := .agg [.lit (.int .i64 0), .lit (.int .i64 0), .lit (.int .i64 0), .lit (.int .i64 0), .lit (.int .i64 0)]

/-- 'quitrentlaw24.CensusNobody': WHATEVER THE INPUT: true; the input reads as it did. -/
def censusNobodySpec : ChangeSpec := { name := "censusNobody", fn := fun _ => fun
  | [d] => { results := [.lit (.bool true)], args := [d] }
  | _ => none }
def censusNobodyRow : OpenClaim := { program := "ytlmedbpejncppaagreatdoor", sum := "133024ae04b0bbbaf4ab0cc619a282bc796a3bacccb9a036d37aae3bbdc351fb", func := "quitrent/quitrentlaw24.CensusNobody", spec := "censusNobody", inPlace := ["sync/atomic.AddUint64"], unfollowed := true, recurses := true, named := ["quitrent/tag.none"], apart := false, laid := [("quitrent/tag.none", laid_quitrent_tag_none)] }
def CensusNobodySaid : Prop := censusNobodyRow.holds Tryz.pinned (OpenSpec.ofChange censusNobodySpec)

/-- ITS FALSE NEIGHBOUR: 'it returns false'. Refute it at one input. -/
def censusNobodyWrong : ChangeSpec := { name := "censusNobody", fn := fun _ => fun
  | [d] => { results := [.lit (.bool false)], args := [d] }
  | _ => none }
def CensusNobodyWrongFalsely : Prop := censusNobodyRow.holds Tryz.pinned (OpenSpec.ofChange censusNobodyWrong)

/-- 'quitrentlaw33.ReportNobody': WHATEVER THE INPUT: true; the input reads as it did. -/
def reportNobodySpec : ChangeSpec := { name := "reportNobody", fn := fun _ => fun
  | [d] => { results := [.lit (.bool true)], args := [d] }
  | _ => none }
def reportNobodyRow : OpenClaim := { program := "ytlmedbpejncppaagreatdoor", sum := "133024ae04b0bbbaf4ab0cc619a282bc796a3bacccb9a036d37aae3bbdc351fb", func := "quitrent/quitrentlaw33.ReportNobody", spec := "reportNobody", inPlace := ["sync/atomic.AddUint64", "internal/abi.NoEscape", "internal/bytealg.MakeNoZero"], unfollowed := true, recurses := true, named := ["quitrent/tag.none"], apart := false, laid := [("quitrent/tag.none", laid_quitrent_tag_none)] }
def ReportNobodySaid : Prop := reportNobodyRow.holds Tryz.pinned (OpenSpec.ofChange reportNobodySpec)

/-- ITS FALSE NEIGHBOUR: 'it returns false'. Refute it at one input. -/
def reportNobodyWrong : ChangeSpec := { name := "reportNobody", fn := fun _ => fun
  | [d] => { results := [.lit (.bool false)], args := [d] }
  | _ => none }
def ReportNobodyWrongFalsely : Prop := reportNobodyRow.holds Tryz.pinned (OpenSpec.ofChange reportNobodyWrong)

/-- 'quitrentlaw33.ReportChanges': WHATEVER THE INPUT: true; the input reads as it did. -/
def reportChangesSpec : ChangeSpec := { name := "reportChanges", fn := fun _ => fun
  | [d1, d2] => { results := [.lit (.bool true)], args := [d1, d2] }
  | _ => none }
def reportChangesRow : OpenClaim := { program := "ytlmedbpejncppaagreatdoor", sum := "133024ae04b0bbbaf4ab0cc619a282bc796a3bacccb9a036d37aae3bbdc351fb", func := "quitrent/quitrentlaw33.ReportChanges", spec := "reportChanges", inPlace := ["sync/atomic.AddUint64", "internal/abi.NoEscape", "internal/bytealg.MakeNoZero"], unfollowed := true, recurses := true, named := ["quitrent/tag.none"], apart := false, laid := [("quitrent/tag.none", laid_quitrent_tag_none)] }
def ReportChangesSaid : Prop := reportChangesRow.holds Tryz.pinned (OpenSpec.ofChange reportChangesSpec)

/-- ITS FALSE NEIGHBOUR: 'it returns false'. Refute it at one input. -/
def reportChangesWrong : ChangeSpec := { name := "reportChanges", fn := fun _ => fun
  | [d1, d2] => { results := [.lit (.bool false)], args := [d1, d2] }
  | _ => none }
def ReportChangesWrongFalsely : Prop := reportChangesRow.holds Tryz.pinned (OpenSpec.ofChange reportChangesWrong)

/- THE SECOND FORM. 'bulk': how many values and letters a reading holds, each counted each time it is reached (what is shared counts as often as it is met; a slice's spare places count too). A statement '..UptoSaid' is the law's where the arguments, and the package variables that the reading takes, are together of bulk at most 1048576: NARROWER than '..Said'. Prove '..Said' where nothing that the law and all that it calls make is longer than what came in: it says more and counts as full. Else prove '..UptoSaid'. A law counts once. -/
mutual
def uptoBulk {H : Type} : DataW H → Nat
  | .lit (.string bytes) => bytes.length + 1
  | .lit _ => 1
  | .nil => 1
  | .ptr d => uptoBulk d + 1
  | .slice elems spare => uptoBulkAll elems + uptoBulkAll spare + 1
  | .agg parts => uptoBulkAll parts + 1
  | .iface _ d => uptoBulk d + 1
  | .map entries => uptoBulkEntries entries + 1
  | .held _ => 1
def uptoBulkAll {H : Type} : List (DataW H) → Nat
  | [] => 0
  | d :: r => uptoBulk d + uptoBulkAll r
def uptoBulkEntries {H : Type} : List (Lit × DataW H) → Nat
  | [] => 0
  | x :: r => uptoBulkEntry x + uptoBulkEntries r
def uptoBulkEntry {H : Type} : Lit × DataW H → Nat
  | (.string bytes, d) => bytes.length + uptoBulk d + 1
  | (_, d) => uptoBulk d + 1
 end
def uptoSmall : (H : Type) → List (DataW H) → Bool := fun _ ds => decide (uptoBulkAll ds ≤ 1048576)
def OpenSpec.upto (s : _root_.Go.ChangeSpec) : _root_.Go.OpenSpec := { _root_.Go.OpenSpec.ofChange s with cond := some uptoSmall }

/-- 'quitrentlaw24.CensusNobody', WHERE WHAT IT READS IS OF BULK AT MOST 1048576: true; the input reads as it did. -/
def censusNobodyUptoRow : OpenClaim := { program := "ytlmedbpejncppaagreatdoor", sum := "133024ae04b0bbbaf4ab0cc619a282bc796a3bacccb9a036d37aae3bbdc351fb", func := "quitrent/quitrentlaw24.CensusNobody", spec := "censusNobody", inPlace := ["sync/atomic.AddUint64"], unfollowed := true, recurses := true, named := ["quitrent/tag.none"], apart := false, laid := [("quitrent/tag.none", laid_quitrent_tag_none)], narrowed := true }
def CensusNobodyUptoSaid : Prop := censusNobodyUptoRow.holds Tryz.pinned (OpenSpec.upto censusNobodySpec)

/-- 'quitrentlaw33.ReportNobody', WHERE WHAT IT READS IS OF BULK AT MOST 1048576: true; the input reads as it did. -/
def reportNobodyUptoRow : OpenClaim := { program := "ytlmedbpejncppaagreatdoor", sum := "133024ae04b0bbbaf4ab0cc619a282bc796a3bacccb9a036d37aae3bbdc351fb", func := "quitrent/quitrentlaw33.ReportNobody", spec := "reportNobody", inPlace := ["sync/atomic.AddUint64", "internal/abi.NoEscape", "internal/bytealg.MakeNoZero"], unfollowed := true, recurses := true, named := ["quitrent/tag.none"], apart := false, laid := [("quitrent/tag.none", laid_quitrent_tag_none)], narrowed := true }
def ReportNobodyUptoSaid : Prop := reportNobodyUptoRow.holds Tryz.pinned (OpenSpec.upto reportNobodySpec)

/-- 'quitrentlaw33.ReportChanges', WHERE WHAT IT READS IS OF BULK AT MOST 1048576: true; the input reads as it did. -/
def reportChangesUptoRow : OpenClaim := { program := "ytlmedbpejncppaagreatdoor", sum := "133024ae04b0bbbaf4ab0cc619a282bc796a3bacccb9a036d37aae3bbdc351fb", func := "quitrent/quitrentlaw33.ReportChanges", spec := "reportChanges", inPlace := ["sync/atomic.AddUint64", "internal/abi.NoEscape", "internal/bytealg.MakeNoZero"], unfollowed := true, recurses := true, named := ["quitrent/tag.none"], apart := false, laid := [("quitrent/tag.none", laid_quitrent_tag_none)], narrowed := true }
def ReportChangesUptoSaid : Prop := reportChangesUptoRow.holds Tryz.pinned (OpenSpec.upto reportChangesSpec)

end Rows
end Go.Proofs.YtlmedbpejncppaaGreatDoor
