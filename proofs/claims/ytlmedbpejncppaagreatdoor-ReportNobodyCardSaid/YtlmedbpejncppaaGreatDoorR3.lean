/-
  The chapter's example of law 33.
-/
import Derived.Test.YtlmedbpejncppaaGreatDoorR1U
noncomputable section
namespace Go.CE
open Go Go.Proofs Go.RowKit
set_option maxRecDepth 100000
set_option linter.unusedVariables false
set_option linter.unusedSimpArgs false
theorem r_begun15 (tt : Nat → TypeId) (nn : Nat → Nat) : vOf (callE (envD Tryz.prog R1U 20000 6) 60000 15 [] (memG 2 (glRows tt nn [(1, zeroVs)]))) = some (.bool true) := by kernel_rfl
def R3 : Tab := R0.add 15 (pureE [(1, zeroVs)] .nil .b (fun _ => true))
theorem R3_ok : TabOk Tryz.prog R3 := R0_ok.add (pureC_ok R1U_ok mixP (N := 20000) (D := 6) (n := 60000) ⟨Tryz.f15, _, Tryz.func15, rfl⟩ rfl fun tt nn a => r_begun15 tt nn)
end Go.CE
