/-
  The chapter's example of law 24.
-/
import Derived.Test.YtlmedbpejncppaaGreatDoorC1U
noncomputable section
namespace Go.CE
open Go Go.Proofs Go.RowKit
set_option maxRecDepth 100000
set_option linter.unusedVariables false
set_option linter.unusedSimpArgs false
theorem r_begun14 (tt : Nat → TypeId) (nn : Nat → Nat) : vOf (callE (envD Tryz.prog C1U 20000 6) 30000 14 [] (memG 2 (glRows tt nn [(1, zeroVs)]))) = some (.bool true) := by kernel_rfl
def C3 : Tab := C2.add 14 (pureE [(1, zeroVs)] .nil .b (fun _ => true))
theorem C3_ok : TabOk Tryz.prog C3 := C2_ok.add (pureC_ok C1U_ok mixP (N := 20000) (D := 6) (n := 30000) ⟨Tryz.f14, _, Tryz.func14, rfl⟩ rfl fun tt nn a => r_begun14 tt nn)
end Go.CE
