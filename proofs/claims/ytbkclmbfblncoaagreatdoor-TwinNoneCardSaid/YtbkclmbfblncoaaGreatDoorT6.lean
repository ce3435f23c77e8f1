/-
  TwinNone: its contract.
-/
import Derived.Test.YtbkclmbfblncoaaGreatDoorT5
noncomputable section
namespace Go.CE
open Go Go.Proofs Go.RowKit
set_option maxRecDepth 100000
set_option linter.unusedVariables false
theorem t_law (a b c d k x y z v : Int) (tt : Nat → TypeId) (nn : Nat → Nat) : callS (β := Bool) (envK T5K quietZ Tryz.prog T5 6000 3) 6000 3 [.agg [.int .i64 a, .int .i64 b, .int .i64 c, .int .i64 d], .agg [.int .i64 k, .int .i64 x, .int .i64 y, .int .i64 z, .int .u32 v]] (memG 2 (glRows tt nn [(0, nameVs), (1, zeroVs)])) (fun v _ => outT .b v) =
  (bif d_quitrentref03_May a b c d then some true else (bif !d_quitrentref03_May a b c d then (bif !d_quitrentref03_May a b c d then some true else none) else none)) := by kernel_rfl
theorem s_law (a b c d k x y z v : Int) (tt : Nat → TypeId) (nn : Nat → Nat) : callS (β := Bool) (envK T5K quietZ Tryz.prog T5 6000 3) 6000 3 [.agg [.int .i64 a, .int .i64 b, .int .i64 c, .int .i64 d], .agg [.int .i64 k, .int .i64 x, .int .i64 y, .int .i64 z, .int .u32 v]] (memG 2 (glRows tt nn [(0, nameVs), (1, zeroVs)])) (fun v _ => outT .b v) = some true := by
  rw [t_law]; cases d_quitrentref03_May a b c d <;> rfl
theorem law_ok : SumOk Tryz.prog 2 3 (pureE [(0, nameVs), (1, zeroVs)] (.cons (.agg (.cons TI (.cons TI (.cons TI (.cons TI .nil))))) (.cons (.agg (.cons TI (.cons TI (.cons TI (.cons TI (.cons (.i .u32) .nil)))))) .nil)) .b (fun _ => true)) :=
  pure_ok T5_ok T5K_ok mixP (N := 6000) (D := 3) (n := 6000) ⟨Tryz.f3, _, Tryz.func3, rfl⟩ rfl fun tt nn x => s_law x.1.1 x.1.2.1 x.1.2.2.1 x.1.2.2.2.1 x.2.1.1 x.2.1.2.1 x.2.1.2.2.1 x.2.1.2.2.2.1 x.2.1.2.2.2.2.1 tt nn
end Go.CE
