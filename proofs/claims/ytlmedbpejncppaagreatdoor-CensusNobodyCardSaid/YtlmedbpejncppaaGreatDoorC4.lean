/-
  CensusNobody: its contract.
-/
import Derived.Test.YtlmedbpejncppaaGreatDoorC3
noncomputable section
namespace Go.CE
open Go Go.Proofs Go.RowKit
set_option maxRecDepth 100000
set_option linter.unusedVariables false
set_option linter.unusedSimpArgs false
def TI : Ty := .i .i64
theorem r_law0 (tt : Nat → TypeId) (nn : Nat → Nat) : vOf (callE (envD Tryz.prog C3 20000 6) 30000 3 [.int .i64 (.ofNat 0)] (memG 2 (glRows tt nn [(1, zeroVs)]))) = some (.bool true) := by kernel_rfl
theorem r_law1 (tt : Nat → TypeId) (nn : Nat → Nat) : vOf (callE (envD Tryz.prog C3 20000 6) 30000 3 [.int .i64 (.ofNat 1)] (memG 2 (glRows tt nn [(1, zeroVs)]))) = some (.bool true) := by kernel_rfl
theorem r_law2 (tt : Nat → TypeId) (nn : Nat → Nat) : vOf (callE (envD Tryz.prog C3 20000 6) 30000 3 [.int .i64 (.ofNat 2)] (memG 2 (glRows tt nn [(1, zeroVs)]))) = some (.bool true) := by kernel_rfl
theorem r_law3 (n : Nat) (tt : Nat → TypeId) (nn : Nat → Nat) : vOf (callE (envD Tryz.prog C3 20000 6) 30000 3 [.int .i64 (.ofNat (n + 3))] (memG 2 (glRows tt nn [(1, zeroVs)]))) = some (.bool true) := by kernel_rfl
theorem r_law4 (tt : Nat → TypeId) (nn : Nat → Nat) : vOf (callE (envD Tryz.prog C3 20000 6) 30000 3 [.int .i64 (.negSucc 0)] (memG 2 (glRows tt nn [(1, zeroVs)]))) = some (.bool true) := by kernel_rfl
theorem r_law5 (n : Nat) (tt : Nat → TypeId) (nn : Nat → Nat) : vOf (callE (envD Tryz.prog C3 20000 6) 30000 3 [.int .i64 (.negSucc (n + 1))] (memG 2 (glRows tt nn [(1, zeroVs)]))) = some (.bool true) := by kernel_rfl
theorem r_law (tt : Nat → TypeId) (nn : Nat → Nat) : ∀ (a : Int), vOf (callE (envD Tryz.prog C3 20000 6) 30000 3 [.int .i64 a] (memG 2 (glRows tt nn [(1, zeroVs)]))) = some (.bool true)
  | .ofNat 0 => r_law0 tt nn
  | .ofNat 1 => r_law1 tt nn
  | .ofNat 2 => r_law2 tt nn
  | .ofNat (n + 3) => r_law3 n tt nn
  | .negSucc 0 => r_law4 tt nn
  | .negSucc (n + 1) => r_law5 n tt nn
theorem law_ok : SumOk Tryz.prog 2 3 (pureE [(1, zeroVs)] (.cons TI .nil) .b (fun _ => true)) :=
  pureC_ok C3_ok mixP (N := 20000) (D := 6) (n := 30000) ⟨Tryz.f3, _, Tryz.func3, rfl⟩ rfl fun tt nn a => r_law tt nn a.1
end Go.CE
