/-
  What calls of plain values come to, in the chapter's example of law 33.
-/
import Derived.Test.YtlmedbpejncppaaGreatDoorR0
noncomputable section
namespace Go.CE
open Go Go.Proofs Go.RowKit
set_option maxRecDepth 100000
set_option linter.unusedVariables false
set_option linter.unusedSimpArgs false
theorem m_27_0 (tt : Nat → TypeId) (nn : Nat → Nat) : vOf (callE (envD Tryz.prog R0 6000 6) 6000 27 [(.int .i64 (16)), (.int .i64 (1)), (.int .i64 (2))] (memG 2 (glRows tt nn [(1, zeroVs)]))) = some (.tup [(.int .i64 (1)), (.int .i64 (0))]) := by kernel_rfl
def L_27 : List (List V × V) := [([(.int .i64 (16)), (.int .i64 (1)), (.int .i64 (2))], (.tup [(.int .i64 (1)), (.int .i64 (0))]))]
def R2_0 : Tab := R0.add 27 (memoE [(1, zeroVs)] L_27)
theorem R2_0_ok : TabOk Tryz.prog R2_0 := R0_ok.add (memo_ok R0_ok mixP (N := 6000) (D := 6) (n := 6000) ⟨Tryz.f27, _, Tryz.func27, rfl⟩ (by kernel_rfl) (by kernel_rfl) fun tt nn => ⟨m_27_0 tt nn, trivial⟩)
theorem m_53_0 (tt : Nat → TypeId) (nn : Nat → Nat) : vOf (callE (envD Tryz.prog R2_0 6000 6) 6000 53 [(.agg [(.int .i64 (2)), (.int .i64 (16)), (.int .i64 (1)), (.int .i64 (3))])] (memG 2 (glRows tt nn [(1, zeroVs)]))) = some (.tup [(.agg [(.int .i64 (57)), (.int .i64 (8)), (.int .i64 (9)), (.int .i64 (120)), (.int .i64 (106)), (.int .i64 (34)), (.int .i64 (90)), (.int .i64 (84))]), (.int .i64 (0))]) := by kernel_rfl
def L_53 : List (List V × V) := [([(.agg [(.int .i64 (2)), (.int .i64 (16)), (.int .i64 (1)), (.int .i64 (3))])], (.tup [(.agg [(.int .i64 (57)), (.int .i64 (8)), (.int .i64 (9)), (.int .i64 (120)), (.int .i64 (106)), (.int .i64 (34)), (.int .i64 (90)), (.int .i64 (84))]), (.int .i64 (0))]))]
def R2_1 : Tab := R2_0.add 53 (memoE [(1, zeroVs)] L_53)
theorem R2_1_ok : TabOk Tryz.prog R2_1 := R2_0_ok.add (memo_ok R2_0_ok mixP (N := 6000) (D := 6) (n := 6000) ⟨Tryz.f53, _, Tryz.func53, rfl⟩ (by kernel_rfl) (by kernel_rfl) fun tt nn => ⟨m_53_0 tt nn, trivial⟩)
theorem m_61_0 (tt : Nat → TypeId) (nn : Nat → Nat) : vOf (callE (envD Tryz.prog R2_1 6000 6) 6000 61 [(.int .u32 (1))] (memG 2 (glRows tt nn [(1, zeroVs)]))) = some (.agg [(.int .i64 (1)), (.int .i64 (0)), (.int .i64 (0)), (.int .i64 (0)), (.int .i64 (0)), (.int .i64 (0)), (.int .i64 (0))]) := by kernel_rfl
theorem m_61_1 (tt : Nat → TypeId) (nn : Nat → Nat) : vOf (callE (envD Tryz.prog R2_1 6000 6) 6000 61 [(.int .u32 (0))] (memG 2 (glRows tt nn [(1, zeroVs)]))) = some (.agg [(.int .i64 (0)), (.int .i64 (0)), (.int .i64 (0)), (.int .i64 (0)), (.int .i64 (0)), (.int .i64 (0)), (.int .i64 (0))]) := by kernel_rfl
def L_61 : List (List V × V) := [([(.int .u32 (1))], (.agg [(.int .i64 (1)), (.int .i64 (0)), (.int .i64 (0)), (.int .i64 (0)), (.int .i64 (0)), (.int .i64 (0)), (.int .i64 (0))])), ([(.int .u32 (0))], (.agg [(.int .i64 (0)), (.int .i64 (0)), (.int .i64 (0)), (.int .i64 (0)), (.int .i64 (0)), (.int .i64 (0)), (.int .i64 (0))]))]
def R2_2 : Tab := R2_1.add 61 (memoE [(1, zeroVs)] L_61)
theorem R2_2_ok : TabOk Tryz.prog R2_2 := R2_1_ok.add (memo_ok R2_1_ok mixP (N := 6000) (D := 6) (n := 6000) ⟨Tryz.f61, _, Tryz.func61, rfl⟩ (by kernel_rfl) (by kernel_rfl) fun tt nn => ⟨m_61_0 tt nn, m_61_1 tt nn, trivial⟩)
theorem m_111_0 (tt : Nat → TypeId) (nn : Nat → Nat) : vOf (callE (envD Tryz.prog R2_2 6000 6) 6000 111 [(.int .i64 (16)), (.int .i64 (3)), (.int .i64 (0))] (memG 2 (glRows tt nn [(1, zeroVs)]))) = some (.tup [(.int .i64 (-1)), (.int .i64 (8)), (.int .i64 (0))]) := by kernel_rfl
theorem m_111_1 (tt : Nat → TypeId) (nn : Nat → Nat) : vOf (callE (envD Tryz.prog R2_2 6000 6) 6000 111 [(.int .i64 (16)), (.int .i64 (3)), (.int .i64 (1))] (memG 2 (glRows tt nn [(1, zeroVs)]))) = some (.tup [(.int .i64 (-1)), (.int .i64 (9)), (.int .i64 (0))]) := by kernel_rfl
theorem m_111_2 (tt : Nat → TypeId) (nn : Nat → Nat) : vOf (callE (envD Tryz.prog R2_2 6000 6) 6000 111 [(.int .i64 (16)), (.int .i64 (3)), (.int .i64 (2))] (memG 2 (glRows tt nn [(1, zeroVs)]))) = some (.tup [(.int .i64 (-1)), (.int .i64 (10)), (.int .i64 (0))]) := by kernel_rfl
def L_111 : List (List V × V) := [([(.int .i64 (16)), (.int .i64 (3)), (.int .i64 (0))], (.tup [(.int .i64 (-1)), (.int .i64 (8)), (.int .i64 (0))])), ([(.int .i64 (16)), (.int .i64 (3)), (.int .i64 (1))], (.tup [(.int .i64 (-1)), (.int .i64 (9)), (.int .i64 (0))])), ([(.int .i64 (16)), (.int .i64 (3)), (.int .i64 (2))], (.tup [(.int .i64 (-1)), (.int .i64 (10)), (.int .i64 (0))]))]
def R2_3 : Tab := R2_2.add 111 (memoE [(1, zeroVs)] L_111)
theorem R2_3_ok : TabOk Tryz.prog R2_3 := R2_2_ok.add (memo_ok R2_2_ok mixP (N := 6000) (D := 6) (n := 6000) ⟨Tryz.f111, _, Tryz.func111, rfl⟩ (by kernel_rfl) (by kernel_rfl) fun tt nn => ⟨m_111_0 tt nn, m_111_1 tt nn, m_111_2 tt nn, trivial⟩)
theorem m_176_0 (tt : Nat → TypeId) (nn : Nat → Nat) : vOf (callE (envD Tryz.prog R2_3 6000 6) 6000 176 [(.agg [(.int .i64 (1)), (.int .i64 (0)), (.int .i64 (0)), (.int .i64 (0)), (.int .i64 (0)), (.int .i64 (0)), (.int .i64 (0))])] (memG 2 (glRows tt nn [(1, zeroVs)]))) = some (.tup [(.int .u32 (1)), (.int .i64 (0))]) := by kernel_rfl
def L_176 : List (List V × V) := [([(.agg [(.int .i64 (1)), (.int .i64 (0)), (.int .i64 (0)), (.int .i64 (0)), (.int .i64 (0)), (.int .i64 (0)), (.int .i64 (0))])], (.tup [(.int .u32 (1)), (.int .i64 (0))]))]
def R2 : Tab := R2_3.add 176 (memoE [(1, zeroVs)] L_176)
theorem R2_ok : TabOk Tryz.prog R2 := R2_3_ok.add (memo_ok R2_3_ok mixP (N := 6000) (D := 6) (n := 6000) ⟨Tryz.f176, _, Tryz.func176, rfl⟩ (by kernel_rfl) (by kernel_rfl) fun tt nn => ⟨m_176_0 tt nn, trivial⟩)
end Go.CE
