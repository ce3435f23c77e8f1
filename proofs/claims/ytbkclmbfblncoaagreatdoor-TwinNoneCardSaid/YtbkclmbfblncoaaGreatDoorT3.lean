/-
  The chapter's example of law 26.
-/
import Derived.Test.YtbkclmbfblncoaaGreatDoorT1U
noncomputable section
namespace Go.CE
open Go Go.Proofs Go.RowKit
set_option maxRecDepth 100000
set_option linter.unusedVariables false
set_option linter.unusedSimpArgs false
theorem r_begun5 (tt : Nat → TypeId) (nn : Nat → Nat) : vOf (callE (envD Tryz.prog T1U 20000 6) 60000 5 [] (memG 2 (glRows tt nn [(0, nameVs), (1, zeroVs)]))) = some (.bool true) := by kernel_rfl
def T3 : Tab := T0.add 5 (pureE [(0, nameVs), (1, zeroVs)] .nil .b (fun _ => true))
theorem T3_ok : TabOk Tryz.prog T3 := T0_ok.add (pureC_ok T1U_ok mixP (N := 20000) (D := 6) (n := 60000) ⟨Tryz.f5, _, Tryz.func5, rfl⟩ rfl fun tt nn a => r_begun5 tt nn)
end Go.CE
