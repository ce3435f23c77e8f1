-- Turned by fprint.py from a print of the kit's print.sh: named by the function, and with what the walk wanted besides.
import Derived.Test.YtlmedbpejncppaaGreatDoorProg
import Derived.Below
import Derived.Deep.Draws
import Derived.Deep.AppendLies
import Derived.Maps.AppendAt
import Derived.OwnWalk
import Derived.Laws.BytesArg
import Derived.Laws.MakeOwn
import Derived.Laws.OwnMore
import Derived.Deep.OwnRows
import Derived.Tactics
import Derived.Lib.ConvBytes
import Derived.Laws.Slices
import Derived.WalkKit
import Derived.KernelRfl
import Derived.RowKit3
import Derived.Deep.LoopGhost
import Derived.Deep.QuietTactic
import Derived.BigQuiet
import Derived.WideLaws
import Derived.Deep.DeepCutAuto
import Derived.Deep.CutBlock
import Derived.Deep.RegionHeld3
import Derived.Laws.Rows
import Derived.Lib.AppendStr
import Derived.ArgAppend
import Derived.Laws.IdiomCopy
import Derived.OrdersHeld
import Derived.Laws.BitsLemmas
import Derived.RowKit
import Derived.Test.YtlmedbpejncppaaGreatDoorWWords
import Derived.Test.YtlmedbpejncppaaGreatDoorWLast
import Derived.Test.YtlmedbpejncppaaGreatDoorWTab
import Derived.Test.YtlmedbpejncppaaGreatDoorWFour
import Derived.Test.YtlmedbpejncppaaGreatDoorWQPut
import Derived.Test.YtlmedbpejncppaaGreatDoorWApart
import Derived.Test.YtlmedbpejncppaaGreatDoorWArr
import Derived.Test.YtlmedbpejncppaaGreatDoorWZeros
import Derived.Test.YtlmedbpejncppaaGreatDoorWFoot
import Derived.Test.YtlmedbpejncppaaGreatDoorWKept
import Derived.Test.YtlmedbpejncppaaGreatDoorWShare
import Derived.Test.YtlmedbpejncppaaGreatDoorWN
import Derived.Test.YtlmedbpejncppaaGreatDoorWFootNe
import Derived.Test.YtlmedbpejncppaaGreatDoorWAt
import Derived.Test.YtlmedbpejncppaaGreatDoorWEqStruct
import Derived.Test.YtlmedbpejncppaaGreatDoorWRepsOne
import Derived.Test.YtlmedbpejncppaaGreatDoorWInv
import Derived.Test.YtlmedbpejncppaaGreatDoorWInvWords
import Derived.Test.YtlmedbpejncppaaGreatDoorWGuard
import Derived.Test.YtlmedbpejncppaaGreatDoorWNEv
import Derived.Test.YtlmedbpejncppaaGreatDoorWMore
namespace Go.Proofs.YtlmedbpejncppaaGreatDoor.PP
open Go.RowKit Go.Proofs.YtlmedbpejncppaaGreatDoorW.PrintWords Go.Proofs.YtlmedbpejncppaaGreatDoorW.PrintLast Go.Proofs.YtlmedbpejncppaaGreatDoorW.PrintMore
attribute [local go_sem] max2_int min2_int max_two min_two max_three min_three max_four min_four   -- for this text's walks alone
set_option linter.unusedVariables false
set_option linter.unusedSimpArgs false



def errW : Option Int → Value
  | none => .nilIface
  | some c => .iface 0 (.int .i64 c)
theorem errW_none : errW none = .nilIface := rfl
theorem errW_some (c : Int) : errW (some c) = .iface 0 (.int .i64 c) := rfl

theorem info3 : (Tryz.prog.info? 3).map (fun i => (i.zero, i.size, i.bytes)) = some (some (.int .i64 0), 1, 8) := by kernel_rfl
theorem info5 : (Tryz.prog.info? 5).map (fun i => (i.zero, i.size, i.bytes)) = some (some (.int .u8 0), 1, 1) := by kernel_rfl
theorem info9 : (Tryz.prog.info? 9).map (fun i => (i.zero, i.size, i.bytes)) = some (some (.string ⟨#[]⟩), 1, 16) := by kernel_rfl
-- the values' own types

end Go.Proofs.YtlmedbpejncppaaGreatDoor.PP
