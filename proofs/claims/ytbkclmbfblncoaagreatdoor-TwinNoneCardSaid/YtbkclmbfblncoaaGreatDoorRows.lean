/-
  NARROWER THAN 'FOR EVERY INPUT', by the rows' own cells (each row's printed sentence says how): TwinNone: laid.
  DERIVED. THE GIVEN ROWS OF THIS SEAT. 1 by the template 'for every input the law returns true; each argument reads behind the call as it read before'; 0 by the template 'total and deterministic' (their statements: YtbkclmbfblncoaaGreatDoorTotals.lean).
  GIVEN WITH THE SEED: the statements are not yours to turn. If you find one false, say at which input.
  Laid BY PROGRAM, IN A SANDBOX (cutbox-rows.mjs): the forced cells as the released guide's own fill.sh prints them over the translation 0d003a15822705ba… (all of the seat's roots in one cut). By AI agents, Wed Nov 11 2026. No macro, syntax, notation, axiom, sorry.
-/
import Derived.Test.YtbkclmbfblncoaaGreatDoorChecked
import GoSem.Claim
import GoSem.ClaimJoined
import GoSem.ClaimMapViews
import Derived.JoinedTies
import Derived.KernelRfl
namespace Go.Proofs.YtbkclmbfblncoaaGreatDoor
/- THE CELL 'sum', in the pinned program and in every row, IS THE sha256 OF THE DUMP (.gsa) THAT YtbkclmbfblncoaaGreatDoorProg.lean LOADS. Nothing in Lean hashes anything: it is a label: what it is worth is what the hold of that sum in a sandbox is worth. -/
noncomputable def Tryz.pinned : Pinned := { name := "ytbkclmbfblncoaagreatdoor", sum := "0d003a15822705baddfe40681428f560769d1b99dfc9cc9a58f9fc58163fb9be", checked := Tryz.checked }
namespace Rows
def none {H : Type} : Left H := { results := [], args := [] }

/- WHAT THE LISTED PACKAGE-LEVEL VARIABLES READ AS WHEN THE CALL BEGINS. Each datum BY PROGRAM (the guide's laid-datum.mjs) off the statement by which the dump's own 'gosem.cut.vars' lays the variable. In a bare row this is a premise. The card (YtbkclmbfblncoaaGreatDoorCards.lean) ties it to the program's text. -/
def laid_quitrent_tag_none {H : Type} : DataW H := .agg [.lit (.int .i64 0), .lit (.int .i64 0), .lit (.int .i64 0), .lit (.int .i64 0), .lit (.int .i64 0)]
def laid_quitrent_op_names {H : Type} : DataW H := .agg [.lit (.string []), .lit (.string [97, 108, 108, 111, 99]), .lit (.string [108, 111, 97, 100]), .lit (.string [115, 116, 111, 114, 101]), .lit (.string [114, 101, 97, 100]), .lit (.string [119, 114, 105, 116, 101]), .lit (.string [99, 111, 112, 121]), .lit (.string [100, 114, 111, 112]), .lit (.string [115, 97, 109, 101]), .lit (.string [108, 101, 110]), .lit (.string [116, 105, 99, 107])]

/-- 'quitrentlaw26.TwinNone': WHATEVER THE INPUT: true; the input reads as it did. -/
def twinNoneSpec : ChangeSpec := { name := "twinNone", fn := fun _ => fun
  | [d1, d2] => { results := [.lit (.bool true)], args := [d1, d2] }
  | _ => none }
def twinNoneRow : OpenClaim := { program := "ytbkclmbfblncoaagreatdoor", sum := "0d003a15822705baddfe40681428f560769d1b99dfc9cc9a58f9fc58163fb9be", func := "quitrent/quitrentlaw26.TwinNone", spec := "twinNone", inPlace := ["sync/atomic.AddUint64"], unfollowed := true, recurses := true, named := ["quitrent/tag.none", "quitrent/op.names"], apart := false, laid := [("quitrent/tag.none", laid_quitrent_tag_none), ("quitrent/op.names", laid_quitrent_op_names)] }
def TwinNoneSaid : Prop := twinNoneRow.holds Tryz.pinned (OpenSpec.ofChange twinNoneSpec)

/-- ITS FALSE NEIGHBOUR: 'it returns false'. Refute it at one input. -/
def twinNoneWrong : ChangeSpec := { name := "twinNone", fn := fun _ => fun
  | [d1, d2] => { results := [.lit (.bool false)], args := [d1, d2] }
  | _ => none }
def TwinNoneWrongFalsely : Prop := twinNoneRow.holds Tryz.pinned (OpenSpec.ofChange twinNoneWrong)

/- THE SECOND FORM. 'bulk': how many values and letters a reading holds, each counted each time it is reached (what is shared counts as often as it is met; a slice's spare places count too). A statement '..UptoSaid' is the law's where the arguments, and the package variables that the reading takes, are together of bulk at most 1048576: NARROWER than '..Said'. Prove '..Said' where nothing that the law and all that it calls make is longer than what came in: it says more and counts as full. Else prove '..UptoSaid'. A law counts once. -/
mutual
def uptoBulk {H : Type} : DataW H → Nat
  | .lit (.string bytes) => bytes.length + 1
  | .lit _ => 1
  | .nil => 1
  | .ptr d => uptoBulk d + 1
  | .slice elems spare => uptoBulkAll elems + uptoBulkAll spare + 1
  | .agg parts => uptoBulkAll parts + 1
  | .iface _ d => uptoBulk d + 1
  | .map entries => uptoBulkEntries entries + 1
  | .held _ => 1
def uptoBulkAll {H : Type} : List (DataW H) → Nat
  | [] => 0
  | d :: r => uptoBulk d + uptoBulkAll r
def uptoBulkEntries {H : Type} : List (Lit × DataW H) → Nat
  | [] => 0
  | x :: r => uptoBulkEntry x + uptoBulkEntries r
def uptoBulkEntry {H : Type} : Lit × DataW H → Nat
  | (.string bytes, d) => bytes.length + uptoBulk d + 1
  | (_, d) => uptoBulk d + 1
 end
def uptoSmall : (H : Type) → List (DataW H) → Bool := fun _ ds => decide (uptoBulkAll ds ≤ 1048576)
def OpenSpec.upto (s : _root_.Go.ChangeSpec) : _root_.Go.OpenSpec := { _root_.Go.OpenSpec.ofChange s with cond := some uptoSmall }

/-- 'quitrentlaw26.TwinNone', WHERE WHAT IT READS IS OF BULK AT MOST 1048576: true; the input reads as it did. -/
def twinNoneUptoRow : OpenClaim := { program := "ytbkclmbfblncoaagreatdoor", sum := "0d003a15822705baddfe40681428f560769d1b99dfc9cc9a58f9fc58163fb9be", func := "quitrent/quitrentlaw26.TwinNone", spec := "twinNone", inPlace := ["sync/atomic.AddUint64"], unfollowed := true, recurses := true, named := ["quitrent/tag.none", "quitrent/op.names"], apart := false, laid := [("quitrent/tag.none", laid_quitrent_tag_none), ("quitrent/op.names", laid_quitrent_op_names)], narrowed := true }
def TwinNoneUptoSaid : Prop := twinNoneUptoRow.holds Tryz.pinned (OpenSpec.upto twinNoneSpec)

end Rows
end Go.Proofs.YtbkclmbfblncoaaGreatDoor
