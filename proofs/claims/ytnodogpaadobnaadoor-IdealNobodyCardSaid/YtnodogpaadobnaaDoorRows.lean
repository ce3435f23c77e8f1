/-
  NARROWER THAN 'FOR EVERY INPUT', by the rows' own cells (each row's printed sentence says how): AuditWords: laid · IdealGone: laid · IdealCopies: laid · IdealPlays: laid · IdealNobody: laid.
  DERIVED. THE GIVEN ROWS OF THIS SEAT. 5 by the template 'for every input the law returns true; each argument reads behind the call as it read before'; 0 by the template 'total and deterministic' (their statements: YtnodogpaadobnaaDoorTotals.lean).
  GIVEN WITH THE SEED: the statements are not yours to turn. If you find one false, say at which input.
  Laid BY PROGRAM, IN A SANDBOX (cutbox-rows.mjs): the forced cells as the released guide's own fill.sh prints them over the translation 4cfb58a1e73aa4ab… (all of the seat's roots in one cut). By AI agents, Wed Nov 11 2026. No macro, syntax, notation, axiom, sorry.
-/
import Derived.Test.YtnodogpaadobnaaDoorChecked
import GoSem.Claim
import GoSem.ClaimJoined
import GoSem.ClaimMapViews
import Derived.JoinedTies
import Derived.KernelRfl
namespace Go.Proofs.YtnodogpaadobnaaDoor
/- THE CELL 'sum', in the pinned program and in every row, IS THE sha256 OF THE DUMP (.gsa) THAT YtnodogpaadobnaaDoorProg.lean LOADS. Nothing in Lean hashes anything: it is a label: what it is worth is what the hold of that sum in a sandbox is worth. -/
noncomputable def Tryd.pinned : Pinned := { name := "ytnodogpaadobnaadoor", sum := "4cfb58a1e73aa4abadaf9663c936dc6057433c3e59203915afef143a17544293", checked := Tryd.checked }
namespace Rows
def none {H : Type} : Left H := { results := [], args := [] }

/- WHAT THE LISTED PACKAGE-LEVEL VARIABLES READ AS WHEN THE CALL BEGINS. Each datum BY PROGRAM (the guide's laid-datum.mjs) off the statement by which the dump's own 'gosem.cut.vars' lays the variable. In a bare row this is a premise. The card (YtnodogpaadobnaaDoorCards.lean) ties it to the program's text. -/
def laid_quitrent_tag_none {H : Type} : DataW H := .agg [.lit (.int .i64 0), .lit (.int .i64 0), .lit (.int .i64 0), .lit (.int .i64 0), .lit (.int .i64 0)]
def laid_quitrent_op_names {H : Type} : DataW H := .agg [.lit (.string []), .lit (.string [97, 108, 108, 111, 99]), .lit (.string [108, 111, 97, 100]), .lit (.string [115, 116, 111, 114, 101]), .lit (.string [114, 101, 97, 100]), .lit (.string [119, 114, 105, 116, 101]), .lit (.string [99, 111, 112, 121]), .lit (.string [100, 114, 111, 112]), .lit (.string [115, 97, 109, 101]), .lit (.string [108, 101, 110]), .lit (.string [116, 105, 99, 107])]

/-- 'quitrentlaw25.AuditWords': WHATEVER THE INPUT: true; the input reads as it did. -/
def auditWordsSpec : ChangeSpec := { name := "auditWords", fn := fun _ => fun
  | [d] => { results := [.lit (.bool true)], args := [d] }
  | _ => none }
def auditWordsRow : OpenClaim := { program := "ytnodogpaadobnaadoor", sum := "4cfb58a1e73aa4abadaf9663c936dc6057433c3e59203915afef143a17544293", func := "quitrent/quitrentlaw25.AuditWords", spec := "auditWords", inPlace := ["sync/atomic.AddUint64"], unfollowed := true, recurses := true, named := ["quitrent/tag.none"], apart := false, laid := [("quitrent/tag.none", laid_quitrent_tag_none)] }
def AuditWordsSaid : Prop := auditWordsRow.holds Tryd.pinned (OpenSpec.ofChange auditWordsSpec)

/-- ITS FALSE NEIGHBOUR: 'it returns false'. Refute it at one input. -/
def auditWordsWrong : ChangeSpec := { name := "auditWords", fn := fun _ => fun
  | [d] => { results := [.lit (.bool false)], args := [d] }
  | _ => none }
def AuditWordsWrongFalsely : Prop := auditWordsRow.holds Tryd.pinned (OpenSpec.ofChange auditWordsWrong)

/-- 'quitrentlaw23.IdealGone': WHATEVER THE INPUT: true; the input reads as it did. -/
def idealGoneSpec : ChangeSpec := { name := "idealGone", fn := fun _ => fun
  | [d1, d2] => { results := [.lit (.bool true)], args := [d1, d2] }
  | _ => none }
def idealGoneRow : OpenClaim := { program := "ytnodogpaadobnaadoor", sum := "4cfb58a1e73aa4abadaf9663c936dc6057433c3e59203915afef143a17544293", func := "quitrent/quitrentlaw23.IdealGone", spec := "idealGone", unfollowed := true, recurses := true, named := ["quitrent/op.names"], apart := false, laid := [("quitrent/op.names", laid_quitrent_op_names)] }
def IdealGoneSaid : Prop := idealGoneRow.holds Tryd.pinned (OpenSpec.ofChange idealGoneSpec)

/-- ITS FALSE NEIGHBOUR: 'it returns false'. Refute it at one input. -/
def idealGoneWrong : ChangeSpec := { name := "idealGone", fn := fun _ => fun
  | [d1, d2] => { results := [.lit (.bool false)], args := [d1, d2] }
  | _ => none }
def IdealGoneWrongFalsely : Prop := idealGoneRow.holds Tryd.pinned (OpenSpec.ofChange idealGoneWrong)

/-- 'quitrentlaw23.IdealCopies': WHATEVER THE INPUT: true; the input reads as it did. -/
def idealCopiesSpec : ChangeSpec := { name := "idealCopies", fn := fun _ => fun
  | [d1, d2, d3] => { results := [.lit (.bool true)], args := [d1, d2, d3] }
  | _ => none }
def idealCopiesRow : OpenClaim := { program := "ytnodogpaadobnaadoor", sum := "4cfb58a1e73aa4abadaf9663c936dc6057433c3e59203915afef143a17544293", func := "quitrent/quitrentlaw23.IdealCopies", spec := "idealCopies", unfollowed := true, recurses := true, named := ["quitrent/op.names"], apart := false, laid := [("quitrent/op.names", laid_quitrent_op_names)] }
def IdealCopiesSaid : Prop := idealCopiesRow.holds Tryd.pinned (OpenSpec.ofChange idealCopiesSpec)

/-- ITS FALSE NEIGHBOUR: 'it returns false'. Refute it at one input. -/
def idealCopiesWrong : ChangeSpec := { name := "idealCopies", fn := fun _ => fun
  | [d1, d2, d3] => { results := [.lit (.bool false)], args := [d1, d2, d3] }
  | _ => none }
def IdealCopiesWrongFalsely : Prop := idealCopiesRow.holds Tryd.pinned (OpenSpec.ofChange idealCopiesWrong)

/-- 'quitrentlaw23.IdealPlays': WHATEVER THE INPUT: true; the input reads as it did. -/
def idealPlaysSpec : ChangeSpec := { name := "idealPlays", fn := fun _ => fun
  | [d1, d2, d3, d4] => { results := [.lit (.bool true)], args := [d1, d2, d3, d4] }
  | _ => none }
def idealPlaysRow : OpenClaim := { program := "ytnodogpaadobnaadoor", sum := "4cfb58a1e73aa4abadaf9663c936dc6057433c3e59203915afef143a17544293", func := "quitrent/quitrentlaw23.IdealPlays", spec := "idealPlays", unfollowed := true, recurses := true, named := ["quitrent/op.names"], apart := false, laid := [("quitrent/op.names", laid_quitrent_op_names)] }
def IdealPlaysSaid : Prop := idealPlaysRow.holds Tryd.pinned (OpenSpec.ofChange idealPlaysSpec)

/-- ITS FALSE NEIGHBOUR: 'it returns false'. Refute it at one input. -/
def idealPlaysWrong : ChangeSpec := { name := "idealPlays", fn := fun _ => fun
  | [d1, d2, d3, d4] => { results := [.lit (.bool false)], args := [d1, d2, d3, d4] }
  | _ => none }
def IdealPlaysWrongFalsely : Prop := idealPlaysRow.holds Tryd.pinned (OpenSpec.ofChange idealPlaysWrong)

/-- 'quitrentlaw23.IdealNobody': WHATEVER THE INPUT: true; the input reads as it did. -/
def idealNobodySpec : ChangeSpec := { name := "idealNobody", fn := fun _ => fun
  | [d1, d2, d3] => { results := [.lit (.bool true)], args := [d1, d2, d3] }
  | _ => none }
def idealNobodyRow : OpenClaim := { program := "ytnodogpaadobnaadoor", sum := "4cfb58a1e73aa4abadaf9663c936dc6057433c3e59203915afef143a17544293", func := "quitrent/quitrentlaw23.IdealNobody", spec := "idealNobody", unfollowed := true, recurses := true, named := ["quitrent/op.names"], apart := false, laid := [("quitrent/op.names", laid_quitrent_op_names)] }
def IdealNobodySaid : Prop := idealNobodyRow.holds Tryd.pinned (OpenSpec.ofChange idealNobodySpec)

/-- ITS FALSE NEIGHBOUR: 'it returns false'. Refute it at one input. -/
def idealNobodyWrong : ChangeSpec := { name := "idealNobody", fn := fun _ => fun
  | [d1, d2, d3] => { results := [.lit (.bool false)], args := [d1, d2, d3] }
  | _ => none }
def IdealNobodyWrongFalsely : Prop := idealNobodyRow.holds Tryd.pinned (OpenSpec.ofChange idealNobodyWrong)

/- THE SECOND FORM. 'bulk': how many values and letters a reading holds, each counted each time it is reached (what is shared counts as often as it is met; a slice's spare places count too). A statement '..UptoSaid' is the law's where the arguments, and the package variables that the reading takes, are together of bulk at most 1048576: NARROWER than '..Said'. Prove '..Said' where nothing that the law and all that it calls make is longer than what came in: it says more and counts as full. Else prove '..UptoSaid'. A law counts once. -/
mutual
def uptoBulk {H : Type} : DataW H → Nat
  | .lit (.string bytes) => bytes.length + 1
  | .lit _ => 1
  | .nil => 1
  | .ptr d => uptoBulk d + 1
  | .slice elems spare => uptoBulkAll elems + uptoBulkAll spare + 1
  | .agg parts => uptoBulkAll parts + 1
  | .iface _ d => uptoBulk d + 1
  | .map entries => uptoBulkEntries entries + 1
  | .held _ => 1
def uptoBulkAll {H : Type} : List (DataW H) → Nat
  | [] => 0
  | d :: r => uptoBulk d + uptoBulkAll r
def uptoBulkEntries {H : Type} : List (Lit × DataW H) → Nat
  | [] => 0
  | x :: r => uptoBulkEntry x + uptoBulkEntries r
def uptoBulkEntry {H : Type} : Lit × DataW H → Nat
  | (.string bytes, d) => bytes.length + uptoBulk d + 1
  | (_, d) => uptoBulk d + 1
 end
def uptoSmall : (H : Type) → List (DataW H) → Bool := fun _ ds => decide (uptoBulkAll ds ≤ 1048576)
def OpenSpec.upto (s : _root_.Go.ChangeSpec) : _root_.Go.OpenSpec := { _root_.Go.OpenSpec.ofChange s with cond := some uptoSmall }

/-- 'quitrentlaw25.AuditWords', WHERE WHAT IT READS IS OF BULK AT MOST 1048576: true; the input reads as it did. -/
def auditWordsUptoRow : OpenClaim := { program := "ytnodogpaadobnaadoor", sum := "4cfb58a1e73aa4abadaf9663c936dc6057433c3e59203915afef143a17544293", func := "quitrent/quitrentlaw25.AuditWords", spec := "auditWords", inPlace := ["sync/atomic.AddUint64"], unfollowed := true, recurses := true, named := ["quitrent/tag.none"], apart := false, laid := [("quitrent/tag.none", laid_quitrent_tag_none)], narrowed := true }
def AuditWordsUptoSaid : Prop := auditWordsUptoRow.holds Tryd.pinned (OpenSpec.upto auditWordsSpec)

/-- 'quitrentlaw23.IdealGone', WHERE WHAT IT READS IS OF BULK AT MOST 1048576: true; the input reads as it did. -/
def idealGoneUptoRow : OpenClaim := { program := "ytnodogpaadobnaadoor", sum := "4cfb58a1e73aa4abadaf9663c936dc6057433c3e59203915afef143a17544293", func := "quitrent/quitrentlaw23.IdealGone", spec := "idealGone", unfollowed := true, recurses := true, named := ["quitrent/op.names"], apart := false, laid := [("quitrent/op.names", laid_quitrent_op_names)], narrowed := true }
def IdealGoneUptoSaid : Prop := idealGoneUptoRow.holds Tryd.pinned (OpenSpec.upto idealGoneSpec)

/-- 'quitrentlaw23.IdealCopies', WHERE WHAT IT READS IS OF BULK AT MOST 1048576: true; the input reads as it did. -/
def idealCopiesUptoRow : OpenClaim := { program := "ytnodogpaadobnaadoor", sum := "4cfb58a1e73aa4abadaf9663c936dc6057433c3e59203915afef143a17544293", func := "quitrent/quitrentlaw23.IdealCopies", spec := "idealCopies", unfollowed := true, recurses := true, named := ["quitrent/op.names"], apart := false, laid := [("quitrent/op.names", laid_quitrent_op_names)], narrowed := true }
def IdealCopiesUptoSaid : Prop := idealCopiesUptoRow.holds Tryd.pinned (OpenSpec.upto idealCopiesSpec)

/-- 'quitrentlaw23.IdealPlays', WHERE WHAT IT READS IS OF BULK AT MOST 1048576: true; the input reads as it did. -/
def idealPlaysUptoRow : OpenClaim := { program := "ytnodogpaadobnaadoor", sum := "4cfb58a1e73aa4abadaf9663c936dc6057433c3e59203915afef143a17544293", func := "quitrent/quitrentlaw23.IdealPlays", spec := "idealPlays", unfollowed := true, recurses := true, named := ["quitrent/op.names"], apart := false, laid := [("quitrent/op.names", laid_quitrent_op_names)], narrowed := true }
def IdealPlaysUptoSaid : Prop := idealPlaysUptoRow.holds Tryd.pinned (OpenSpec.upto idealPlaysSpec)

/-- 'quitrentlaw23.IdealNobody', WHERE WHAT IT READS IS OF BULK AT MOST 1048576: true; the input reads as it did. -/
def idealNobodyUptoRow : OpenClaim := { program := "ytnodogpaadobnaadoor", sum := "4cfb58a1e73aa4abadaf9663c936dc6057433c3e59203915afef143a17544293", func := "quitrent/quitrentlaw23.IdealNobody", spec := "idealNobody", unfollowed := true, recurses := true, named := ["quitrent/op.names"], apart := false, laid := [("quitrent/op.names", laid_quitrent_op_names)], narrowed := true }
def IdealNobodyUptoSaid : Prop := idealNobodyUptoRow.holds Tryd.pinned (OpenSpec.upto idealNobodySpec)

end Rows
end Go.Proofs.YtnodogpaadobnaaDoor
