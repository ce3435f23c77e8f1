/-
  What calls of plain values come to, in the chapter's example of law 26.
-/
import Derived.Test.YtbkclmbfblncoaaGreatDoorT0
noncomputable section
namespace Go.CE
open Go Go.Proofs Go.RowKit
set_option maxRecDepth 100000
set_option linter.unusedVariables false
set_option linter.unusedSimpArgs false
theorem m_11_0 (tt : Nat → TypeId) (nn : Nat → Nat) : vOf (callE (envD Tryz.prog T0 6000 6) 6000 11 [(.agg [(.int .i64 (2)), (.int .i64 (16)), (.int .i64 (1)), (.int .i64 (1))])] (memG 2 (glRows tt nn [(1, zeroVs)]))) = some (.tup [(.agg [(.int .i64 (57)), (.int .i64 (8)), (.int .i64 (9)), (.int .i64 (120)), (.int .i64 (106)), (.int .i64 (34)), (.int .i64 (230)), (.int .i64 (248))]), (.int .i64 (0))]) := by kernel_rfl
def L_11 : List (List V × V) := [([(.agg [(.int .i64 (2)), (.int .i64 (16)), (.int .i64 (1)), (.int .i64 (1))])], (.tup [(.agg [(.int .i64 (57)), (.int .i64 (8)), (.int .i64 (9)), (.int .i64 (120)), (.int .i64 (106)), (.int .i64 (34)), (.int .i64 (230)), (.int .i64 (248))]), (.int .i64 (0))]))]
def T2_0 : Tab := T0.add 11 (memoE [(1, zeroVs)] L_11)
theorem T2_0_ok : TabOk Tryz.prog T2_0 := T0_ok.add (memo_ok T0_ok mixP (N := 6000) (D := 6) (n := 6000) ⟨Tryz.f11, _, Tryz.func11, rfl⟩ (by kernel_rfl) (by kernel_rfl) fun tt nn => ⟨m_11_0 tt nn, trivial⟩)
theorem m_40_0 (tt : Nat → TypeId) (nn : Nat → Nat) : vOf (callE (envD Tryz.prog T2_0 6000 6) 6000 40 [(.int .i64 (16)), (.int .i64 (0)), (.int .i64 (0))] (memG 2 (glRows tt nn [(1, zeroVs)]))) = some (.tup [(.int .i64 (1)), (.int .i64 (0))]) := by kernel_rfl
def L_40 : List (List V × V) := [([(.int .i64 (16)), (.int .i64 (0)), (.int .i64 (0))], (.tup [(.int .i64 (1)), (.int .i64 (0))]))]
def T2_1 : Tab := T2_0.add 40 (memoE [(1, zeroVs)] L_40)
theorem T2_1_ok : TabOk Tryz.prog T2_1 := T2_0_ok.add (memo_ok T2_0_ok mixP (N := 6000) (D := 6) (n := 6000) ⟨Tryz.f40, _, Tryz.func40, rfl⟩ (by kernel_rfl) (by kernel_rfl) fun tt nn => ⟨m_40_0 tt nn, trivial⟩)
theorem m_98_0 (tt : Nat → TypeId) (nn : Nat → Nat) : vOf (callE (envD Tryz.prog T2_1 6000 6) 6000 98 [(.int .u32 (1))] (memG 2 (glRows tt nn [(1, zeroVs)]))) = some (.agg [(.int .i64 (1)), (.int .i64 (0)), (.int .i64 (0)), (.int .i64 (0)), (.int .i64 (0)), (.int .i64 (0)), (.int .i64 (0))]) := by kernel_rfl
theorem m_98_1 (tt : Nat → TypeId) (nn : Nat → Nat) : vOf (callE (envD Tryz.prog T2_1 6000 6) 6000 98 [(.int .u32 (0))] (memG 2 (glRows tt nn [(1, zeroVs)]))) = some (.agg [(.int .i64 (0)), (.int .i64 (0)), (.int .i64 (0)), (.int .i64 (0)), (.int .i64 (0)), (.int .i64 (0)), (.int .i64 (0))]) := by kernel_rfl
theorem m_98_2 (tt : Nat → TypeId) (nn : Nat → Nat) : vOf (callE (envD Tryz.prog T2_1 6000 6) 6000 98 [(.int .u32 (33))] (memG 2 (glRows tt nn [(1, zeroVs)]))) = some (.agg [(.int .i64 (1)), (.int .i64 (0)), (.int .i64 (0)), (.int .i64 (0)), (.int .i64 (1)), (.int .i64 (0)), (.int .i64 (0))]) := by kernel_rfl
theorem m_98_3 (tt : Nat → TypeId) (nn : Nat → Nat) : vOf (callE (envD Tryz.prog T2_1 6000 6) 6000 98 [(.int .u32 (29))] (memG 2 (glRows tt nn [(1, zeroVs)]))) = some (.agg [(.int .i64 (1)), (.int .i64 (1)), (.int .i64 (1)), (.int .i64 (1)), (.int .i64 (0)), (.int .i64 (0)), (.int .i64 (0))]) := by kernel_rfl
def L_98 : List (List V × V) := [([(.int .u32 (1))], (.agg [(.int .i64 (1)), (.int .i64 (0)), (.int .i64 (0)), (.int .i64 (0)), (.int .i64 (0)), (.int .i64 (0)), (.int .i64 (0))])), ([(.int .u32 (0))], (.agg [(.int .i64 (0)), (.int .i64 (0)), (.int .i64 (0)), (.int .i64 (0)), (.int .i64 (0)), (.int .i64 (0)), (.int .i64 (0))])), ([(.int .u32 (33))], (.agg [(.int .i64 (1)), (.int .i64 (0)), (.int .i64 (0)), (.int .i64 (0)), (.int .i64 (1)), (.int .i64 (0)), (.int .i64 (0))])), ([(.int .u32 (29))], (.agg [(.int .i64 (1)), (.int .i64 (1)), (.int .i64 (1)), (.int .i64 (1)), (.int .i64 (0)), (.int .i64 (0)), (.int .i64 (0))]))]
def T2_2 : Tab := T2_1.add 98 (memoE [(1, zeroVs)] L_98)
theorem T2_2_ok : TabOk Tryz.prog T2_2 := T2_1_ok.add (memo_ok T2_1_ok mixP (N := 6000) (D := 6) (n := 6000) ⟨Tryz.f98, _, Tryz.func98, rfl⟩ (by kernel_rfl) (by kernel_rfl) fun tt nn => ⟨m_98_0 tt nn, m_98_1 tt nn, m_98_2 tt nn, m_98_3 tt nn, trivial⟩)
theorem m_198_0 (tt : Nat → TypeId) (nn : Nat → Nat) : vOf (callE (envD Tryz.prog T2_2 6000 6) 6000 198 [(.agg [(.int .i64 (1)), (.int .i64 (0)), (.int .i64 (0)), (.int .i64 (0)), (.int .i64 (0)), (.int .i64 (0)), (.int .i64 (0))])] (memG 2 (glRows tt nn [(1, zeroVs)]))) = some (.tup [(.int .u32 (1)), (.int .i64 (0))]) := by kernel_rfl
theorem m_198_1 (tt : Nat → TypeId) (nn : Nat → Nat) : vOf (callE (envD Tryz.prog T2_2 6000 6) 6000 198 [(.agg [(.int .i64 (0)), (.int .i64 (0)), (.int .i64 (0)), (.int .i64 (0)), (.int .i64 (0)), (.int .i64 (0)), (.int .i64 (0))])] (memG 2 (glRows tt nn [(1, zeroVs)]))) = some (.tup [(.int .u32 (0)), (.int .i64 (0))]) := by kernel_rfl
theorem m_198_2 (tt : Nat → TypeId) (nn : Nat → Nat) : vOf (callE (envD Tryz.prog T2_2 6000 6) 6000 198 [(.agg [(.int .i64 (1)), (.int .i64 (0)), (.int .i64 (0)), (.int .i64 (0)), (.int .i64 (1)), (.int .i64 (0)), (.int .i64 (0))])] (memG 2 (glRows tt nn [(1, zeroVs)]))) = some (.tup [(.int .u32 (33)), (.int .i64 (0))]) := by kernel_rfl
theorem m_198_3 (tt : Nat → TypeId) (nn : Nat → Nat) : vOf (callE (envD Tryz.prog T2_2 6000 6) 6000 198 [(.agg [(.int .i64 (1)), (.int .i64 (1)), (.int .i64 (1)), (.int .i64 (1)), (.int .i64 (0)), (.int .i64 (0)), (.int .i64 (0))])] (memG 2 (glRows tt nn [(1, zeroVs)]))) = some (.tup [(.int .u32 (29)), (.int .i64 (0))]) := by kernel_rfl
def L_198 : List (List V × V) := [([(.agg [(.int .i64 (1)), (.int .i64 (0)), (.int .i64 (0)), (.int .i64 (0)), (.int .i64 (0)), (.int .i64 (0)), (.int .i64 (0))])], (.tup [(.int .u32 (1)), (.int .i64 (0))])), ([(.agg [(.int .i64 (0)), (.int .i64 (0)), (.int .i64 (0)), (.int .i64 (0)), (.int .i64 (0)), (.int .i64 (0)), (.int .i64 (0))])], (.tup [(.int .u32 (0)), (.int .i64 (0))])), ([(.agg [(.int .i64 (1)), (.int .i64 (0)), (.int .i64 (0)), (.int .i64 (0)), (.int .i64 (1)), (.int .i64 (0)), (.int .i64 (0))])], (.tup [(.int .u32 (33)), (.int .i64 (0))])), ([(.agg [(.int .i64 (1)), (.int .i64 (1)), (.int .i64 (1)), (.int .i64 (1)), (.int .i64 (0)), (.int .i64 (0)), (.int .i64 (0))])], (.tup [(.int .u32 (29)), (.int .i64 (0))]))]
def T2 : Tab := T2_2.add 198 (memoE [(1, zeroVs)] L_198)
theorem T2_ok : TabOk Tryz.prog T2 := T2_2_ok.add (memo_ok T2_2_ok mixP (N := 6000) (D := 6) (n := 6000) ⟨Tryz.f198, _, Tryz.func198, rfl⟩ (by kernel_rfl) (by kernel_rfl) fun tt nn => ⟨m_198_0 tt nn, m_198_1 tt nn, m_198_2 tt nn, m_198_3 tt nn, trivial⟩)
end Go.CE
