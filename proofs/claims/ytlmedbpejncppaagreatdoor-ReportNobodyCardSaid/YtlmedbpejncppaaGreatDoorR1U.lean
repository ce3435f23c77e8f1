/-
  Level R1, for closed evaluation.
-/
import Derived.Test.YtlmedbpejncppaaGreatDoorR1
import Derived.Test.YtlmedbpejncppaaGreatDoorR2
noncomputable section
namespace Go.CE
open Go Go.Proofs Go.RowKit
set_option maxRecDepth 100000
set_option linter.unusedVariables false
set_option linter.unusedSimpArgs false
theorem u_ground_Ground_Conf : SumOk Tryz.prog 2 21 (gE [] .nil (.agg (.cons (.i .i64) (.cons (.i .i64) (.cons (.i .i64) (.cons (.i .i64) .nil))))) (fun s x => r_ground_Ground_Conf s)) := by have h := o_ground_Ground_Conf; rw [d_ground_Ground_Conf_def] at h; exact h
def R1U_0 : Tab := R2.add 21 (gE [] .nil (.agg (.cons (.i .i64) (.cons (.i .i64) (.cons (.i .i64) (.cons (.i .i64) .nil))))) (fun s x => r_ground_Ground_Conf s))
theorem R1U_0_ok : TabOk Tryz.prog R1U_0 := R2_ok.add u_ground_Ground_Conf
theorem u_ground_Ground_Reg : SumOk Tryz.prog 2 99 (gE [] (.cons (.i .i64) .nil) (.i .i64) (fun s x => r_ground_Ground_Reg s x.1)) := by have h := o_ground_Ground_Reg; rw [d_ground_Ground_Reg_def] at h; exact h
def R1U_1 : Tab := R1U_0.add 99 (gE [] (.cons (.i .i64) .nil) (.i .i64) (fun s x => r_ground_Ground_Reg s x.1))
theorem R1U_1_ok : TabOk Tryz.prog R1U_1 := R1U_0_ok.add u_ground_Ground_Reg
theorem u_ground_Ground_SetReg : SumOk Tryz.prog 2 103 (gE [] (.cons (.i .i64) (.cons (.i .i64) .nil)) .b (fun s x => r_ground_Ground_SetReg s x.1 x.2.1)) := by have h := o_ground_Ground_SetReg; rw [d_ground_Ground_SetReg_def] at h; exact h
def R1U_2 : Tab := R1U_1.add 103 (gE [] (.cons (.i .i64) (.cons (.i .i64) .nil)) .b (fun s x => r_ground_Ground_SetReg s x.1 x.2.1))
theorem R1U_2_ok : TabOk Tryz.prog R1U_2 := R1U_1_ok.add u_ground_Ground_SetReg
theorem u_ground_Ground_Word : SumOk Tryz.prog 2 158 (gE [] (.cons (.i .i64) (.cons (.i .i64) .nil)) (.i .u32) (fun s x => r_ground_Ground_Word s x.1 x.2.1)) := by have h := o_ground_Ground_Word; rw [d_ground_Ground_Word_def] at h; exact h
def R1U_3 : Tab := R1U_2.add 158 (gE [] (.cons (.i .i64) (.cons (.i .i64) .nil)) (.i .u32) (fun s x => r_ground_Ground_Word s x.1 x.2.1))
theorem R1U_3_ok : TabOk Tryz.prog R1U_3 := R1U_2_ok.add u_ground_Ground_Word
theorem u_ground_Ground_SetWord : SumOk Tryz.prog 2 102 (gE [] (.cons (.i .i64) (.cons (.i .i64) (.cons (.i .u32) .nil))) .b (fun s x => r_ground_Ground_SetWord s x.1 x.2.1 x.2.2.1)) := by have h := o_ground_Ground_SetWord; rw [d_ground_Ground_SetWord_def] at h; exact h
def R1U_4 : Tab := R1U_3.add 102 (gE [] (.cons (.i .i64) (.cons (.i .i64) (.cons (.i .u32) .nil))) .b (fun s x => r_ground_Ground_SetWord s x.1 x.2.1 x.2.2.1))
theorem R1U_4_ok : TabOk Tryz.prog R1U_4 := R1U_3_ok.add u_ground_Ground_SetWord
theorem u_ground_Ground_Root : SumOk Tryz.prog 2 82 (gE [] (.cons (.i .i64) .nil) (.i .i64) (fun s x => r_ground_Ground_Root s x.1)) := by have h := o_ground_Ground_Root; rw [d_ground_Ground_Root_def] at h; exact h
def R1U_5 : Tab := R1U_4.add 82 (gE [] (.cons (.i .i64) .nil) (.i .i64) (fun s x => r_ground_Ground_Root s x.1))
theorem R1U_5_ok : TabOk Tryz.prog R1U_5 := R1U_4_ok.add u_ground_Ground_Root
theorem u_ground_Ground_SetRoot : SumOk Tryz.prog 2 120 (gE [] (.cons (.i .i64) (.cons (.i .i64) .nil)) .b (fun s x => r_ground_Ground_SetRoot s x.1 x.2.1)) := by have h := o_ground_Ground_SetRoot; rw [d_ground_Ground_SetRoot_def] at h; exact h
def R1U_6 : Tab := R1U_5.add 120 (gE [] (.cons (.i .i64) (.cons (.i .i64) .nil)) .b (fun s x => r_ground_Ground_SetRoot s x.1 x.2.1))
theorem R1U_6_ok : TabOk Tryz.prog R1U_6 := R1U_5_ok.add u_ground_Ground_SetRoot
theorem u_ground_Ground_SeeReg : SumOk Tryz.prog 2 88 (gE [] (.cons (.i .i64) .nil) (.i .i64) (fun s x => r_ground_Ground_SeeReg s x.1)) := by have h := o_ground_Ground_SeeReg; rw [d_ground_Ground_SeeReg_def] at h; exact h
def R1U_7 : Tab := R1U_6.add 88 (gE [] (.cons (.i .i64) .nil) (.i .i64) (fun s x => r_ground_Ground_SeeReg s x.1))
theorem R1U_7_ok : TabOk Tryz.prog R1U_7 := R1U_6_ok.add u_ground_Ground_SeeReg
theorem u_ground_Ground_SeeWord : SumOk Tryz.prog 2 60 (gE [] (.cons (.i .i64) (.cons (.i .i64) .nil)) (.i .u32) (fun s x => r_ground_Ground_SeeWord s x.1 x.2.1)) := by have h := o_ground_Ground_SeeWord; rw [d_ground_Ground_SeeWord_def] at h; exact h
def R1U_8 : Tab := R1U_7.add 60 (gE [] (.cons (.i .i64) (.cons (.i .i64) .nil)) (.i .u32) (fun s x => r_ground_Ground_SeeWord s x.1 x.2.1))
theorem R1U_8_ok : TabOk Tryz.prog R1U_8 := R1U_7_ok.add u_ground_Ground_SeeWord
theorem u_ground_Ground_SeeRoot : SumOk Tryz.prog 2 31 (gE [] (.cons (.i .i64) .nil) (.i .i64) (fun s x => r_ground_Ground_SeeRoot s x.1)) := by have h := o_ground_Ground_SeeRoot; rw [d_ground_Ground_SeeRoot_def] at h; exact h
def R1U : Tab := R1U_8.add 31 (gE [] (.cons (.i .i64) .nil) (.i .i64) (fun s x => r_ground_Ground_SeeRoot s x.1))
theorem R1U_ok : TabOk Tryz.prog R1U := R1U_8_ok.add u_ground_Ground_SeeRoot
end Go.CE
