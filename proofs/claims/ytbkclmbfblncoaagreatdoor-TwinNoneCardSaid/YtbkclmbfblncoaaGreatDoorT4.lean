/-
  The program's functions, laid by a program of this session's (zgen.py): level T4.
-/
import Derived.Test.YtbkclmbfblncoaaGreatDoorT0
noncomputable section
namespace Go.CE
open Go Go.Proofs Go.RowKit
set_option maxRecDepth 100000
set_option linter.unusedVariables false
set_option linter.unusedSimpArgs false
def r_quitrentref03_May (a0 : Int) (a1 : Int) (a2 : Int) (a3 : Int) : Bool :=
  (bif !intLe 1 a0 then
    (false)
  else
    (bif !intLe a0 1048576 then
      (false)
    else
      (bif !intLe 16 a1 then
        (false)
      else
        (bif !intLe a1 256 then
          (false)
        else
          (bif !intLe 1 a2 then
            (false)
          else
            (bif !intLe a2 4096 then
              (false)
            else
              (bif !intLe 1 a3 then
                (false)
              else
                (bif !intLe a3 65536 then
                  (false)
                else
                  (bif intLe (IntKind.i64.wrap (a0 * a1)) 4194304 then
                    (true)
                  else
                    (false))))))))))
def d_quitrentref03_May : Int → Int → Int → Int → Bool := (shut r_quitrentref03_May).1
theorem d_quitrentref03_May_def : d_quitrentref03_May = r_quitrentref03_May := (shut r_quitrentref03_May).2
theorem t_quitrentref03_May (a0 : Int) (a1 : Int) (a2 : Int) (a3 : Int) (tt : Nat → TypeId) (nn : Nat → Nat) : callS (β := Bool) (envK T0K quietZ Tryz.prog T0 6000 3) 6000 4 [.agg [.int .i64 a0, .int .i64 a1, .int .i64 a2, .int .i64 a3]] (memG 2 (glRows tt nn [])) (fun v _ => outT .b v) =
  ((bif !intLe 1 a0 then
    some (false)
  else
    (bif !intLe a0 1048576 then
      some (false)
    else
      (bif !intLe 16 a1 then
        some (false)
      else
        (bif !intLe a1 256 then
          some (false)
        else
          (bif !intLe 1 a2 then
            some (false)
          else
            (bif !intLe a2 4096 then
              some (false)
            else
              (bif !intLe 1 a3 then
                some (false)
              else
                (bif !intLe a3 65536 then
                  some (false)
                else
                  (bif intLe (IntKind.i64.wrap (a0 * a1)) 4194304 then
                    some (true)
                  else
                    some (false)))))))))) : Option Bool) := by kernel_rfl
theorem s_quitrentref03_May (a0 : Int) (a1 : Int) (a2 : Int) (a3 : Int) (tt : Nat → TypeId) (nn : Nat → Nat) : callS (β := Bool) (envK T0K quietZ Tryz.prog T0 6000 3) 6000 4 [.agg [.int .i64 a0, .int .i64 a1, .int .i64 a2, .int .i64 a3]] (memG 2 (glRows tt nn [])) (fun v _ => outT .b v) = some (d_quitrentref03_May a0 a1 a2 a3) := by
  rw [t_quitrentref03_May, d_quitrentref03_May_def]; unfold r_quitrentref03_May; simp only [some_cond]
theorem o_quitrentref03_May : SumOk Tryz.prog 2 4 (pureE [] (.cons (.agg (.cons (.i .i64) (.cons (.i .i64) (.cons (.i .i64) (.cons (.i .i64) .nil))))) .nil) .b (fun x => d_quitrentref03_May x.1.1 x.1.2.1 x.1.2.2.1 x.1.2.2.2.1)) := pure_ok T0_ok T0K_ok mixP (N := 6000) (D := 3) (n := 6000) ⟨Tryz.f4, _, Tryz.func4, rfl⟩ (by kernel_rfl) fun tt nn x => s_quitrentref03_May x.1.1 x.1.2.1 x.1.2.2.1 x.1.2.2.2.1 tt nn
def r_plan_Check (a0 : Int) (a1 : Int) (a2 : Int) (a3 : Int) : Int :=
  (bif !intLe a0 1048576 then
    (bif 1048576 == a0 then
      (bif !intLe a1 256 then
        (bif 256 == a1 then
          (bif !intLe a2 4096 then
            (bif 4096 == a2 then
              (bif !intLe a3 65536 then
                (bif 65536 == a3 then
                  (bif intLe (IntKind.i64.wrap (a0 * a1)) 4194304 then
                    (0)
                  else
                    (1))
                else
                  (1))
              else
                (bif (if 1 > a3 then 1 else a3) == a3 then
                  (bif intLe (IntKind.i64.wrap (a0 * a1)) 4194304 then
                    (0)
                  else
                    (1))
                else
                  (1)))
            else
              (1))
          else
            (bif (if 1 > a2 then 1 else a2) == a2 then
              (bif !intLe a3 65536 then
                (bif 65536 == a3 then
                  (bif intLe (IntKind.i64.wrap (a0 * a1)) 4194304 then
                    (0)
                  else
                    (1))
                else
                  (1))
              else
                (bif (if 1 > a3 then 1 else a3) == a3 then
                  (bif intLe (IntKind.i64.wrap (a0 * a1)) 4194304 then
                    (0)
                  else
                    (1))
                else
                  (1)))
            else
              (1)))
        else
          (1))
      else
        (bif (if 16 > a1 then 16 else a1) == a1 then
          (bif !intLe a2 4096 then
            (bif 4096 == a2 then
              (bif !intLe a3 65536 then
                (bif 65536 == a3 then
                  (bif intLe (IntKind.i64.wrap (a0 * a1)) 4194304 then
                    (0)
                  else
                    (1))
                else
                  (1))
              else
                (bif (if 1 > a3 then 1 else a3) == a3 then
                  (bif intLe (IntKind.i64.wrap (a0 * a1)) 4194304 then
                    (0)
                  else
                    (1))
                else
                  (1)))
            else
              (1))
          else
            (bif (if 1 > a2 then 1 else a2) == a2 then
              (bif !intLe a3 65536 then
                (bif 65536 == a3 then
                  (bif intLe (IntKind.i64.wrap (a0 * a1)) 4194304 then
                    (0)
                  else
                    (1))
                else
                  (1))
              else
                (bif (if 1 > a3 then 1 else a3) == a3 then
                  (bif intLe (IntKind.i64.wrap (a0 * a1)) 4194304 then
                    (0)
                  else
                    (1))
                else
                  (1)))
            else
              (1)))
        else
          (1)))
    else
      (1))
  else
    (bif (if 1 > a0 then 1 else a0) == a0 then
      (bif !intLe a1 256 then
        (bif 256 == a1 then
          (bif !intLe a2 4096 then
            (bif 4096 == a2 then
              (bif !intLe a3 65536 then
                (bif 65536 == a3 then
                  (bif intLe (IntKind.i64.wrap (a0 * a1)) 4194304 then
                    (0)
                  else
                    (1))
                else
                  (1))
              else
                (bif (if 1 > a3 then 1 else a3) == a3 then
                  (bif intLe (IntKind.i64.wrap (a0 * a1)) 4194304 then
                    (0)
                  else
                    (1))
                else
                  (1)))
            else
              (1))
          else
            (bif (if 1 > a2 then 1 else a2) == a2 then
              (bif !intLe a3 65536 then
                (bif 65536 == a3 then
                  (bif intLe (IntKind.i64.wrap (a0 * a1)) 4194304 then
                    (0)
                  else
                    (1))
                else
                  (1))
              else
                (bif (if 1 > a3 then 1 else a3) == a3 then
                  (bif intLe (IntKind.i64.wrap (a0 * a1)) 4194304 then
                    (0)
                  else
                    (1))
                else
                  (1)))
            else
              (1)))
        else
          (1))
      else
        (bif (if 16 > a1 then 16 else a1) == a1 then
          (bif !intLe a2 4096 then
            (bif 4096 == a2 then
              (bif !intLe a3 65536 then
                (bif 65536 == a3 then
                  (bif intLe (IntKind.i64.wrap (a0 * a1)) 4194304 then
                    (0)
                  else
                    (1))
                else
                  (1))
              else
                (bif (if 1 > a3 then 1 else a3) == a3 then
                  (bif intLe (IntKind.i64.wrap (a0 * a1)) 4194304 then
                    (0)
                  else
                    (1))
                else
                  (1)))
            else
              (1))
          else
            (bif (if 1 > a2 then 1 else a2) == a2 then
              (bif !intLe a3 65536 then
                (bif 65536 == a3 then
                  (bif intLe (IntKind.i64.wrap (a0 * a1)) 4194304 then
                    (0)
                  else
                    (1))
                else
                  (1))
              else
                (bif (if 1 > a3 then 1 else a3) == a3 then
                  (bif intLe (IntKind.i64.wrap (a0 * a1)) 4194304 then
                    (0)
                  else
                    (1))
                else
                  (1)))
            else
              (1)))
        else
          (1)))
    else
      (1)))
def d_plan_Check : Int → Int → Int → Int → Int := (shut r_plan_Check).1
theorem d_plan_Check_def : d_plan_Check = r_plan_Check := (shut r_plan_Check).2
theorem t_plan_Check (a0 : Int) (a1 : Int) (a2 : Int) (a3 : Int) (tt : Nat → TypeId) (nn : Nat → Nat) : callS (β := Int) (envK T0K quietZ Tryz.prog T0 6000 3) 6000 14 [.agg [.int .i64 a0, .int .i64 a1, .int .i64 a2, .int .i64 a3]] (memG 2 (glRows tt nn [])) (fun v _ => outT (.i .i64) v) =
  ((bif !intLe a0 1048576 then
    (bif 1048576 == a0 then
      (bif !intLe a1 256 then
        (bif 256 == a1 then
          (bif !intLe a2 4096 then
            (bif 4096 == a2 then
              (bif !intLe a3 65536 then
                (bif 65536 == a3 then
                  (bif intLe (IntKind.i64.wrap (a0 * a1)) 4194304 then
                    some (0)
                  else
                    some (1))
                else
                  some (1))
              else
                (bif (if 1 > a3 then 1 else a3) == a3 then
                  (bif intLe (IntKind.i64.wrap (a0 * a1)) 4194304 then
                    some (0)
                  else
                    some (1))
                else
                  some (1)))
            else
              some (1))
          else
            (bif (if 1 > a2 then 1 else a2) == a2 then
              (bif !intLe a3 65536 then
                (bif 65536 == a3 then
                  (bif intLe (IntKind.i64.wrap (a0 * a1)) 4194304 then
                    some (0)
                  else
                    some (1))
                else
                  some (1))
              else
                (bif (if 1 > a3 then 1 else a3) == a3 then
                  (bif intLe (IntKind.i64.wrap (a0 * a1)) 4194304 then
                    some (0)
                  else
                    some (1))
                else
                  some (1)))
            else
              some (1)))
        else
          some (1))
      else
        (bif (if 16 > a1 then 16 else a1) == a1 then
          (bif !intLe a2 4096 then
            (bif 4096 == a2 then
              (bif !intLe a3 65536 then
                (bif 65536 == a3 then
                  (bif intLe (IntKind.i64.wrap (a0 * a1)) 4194304 then
                    some (0)
                  else
                    some (1))
                else
                  some (1))
              else
                (bif (if 1 > a3 then 1 else a3) == a3 then
                  (bif intLe (IntKind.i64.wrap (a0 * a1)) 4194304 then
                    some (0)
                  else
                    some (1))
                else
                  some (1)))
            else
              some (1))
          else
            (bif (if 1 > a2 then 1 else a2) == a2 then
              (bif !intLe a3 65536 then
                (bif 65536 == a3 then
                  (bif intLe (IntKind.i64.wrap (a0 * a1)) 4194304 then
                    some (0)
                  else
                    some (1))
                else
                  some (1))
              else
                (bif (if 1 > a3 then 1 else a3) == a3 then
                  (bif intLe (IntKind.i64.wrap (a0 * a1)) 4194304 then
                    some (0)
                  else
                    some (1))
                else
                  some (1)))
            else
              some (1)))
        else
          some (1)))
    else
      some (1))
  else
    (bif (if 1 > a0 then 1 else a0) == a0 then
      (bif !intLe a1 256 then
        (bif 256 == a1 then
          (bif !intLe a2 4096 then
            (bif 4096 == a2 then
              (bif !intLe a3 65536 then
                (bif 65536 == a3 then
                  (bif intLe (IntKind.i64.wrap (a0 * a1)) 4194304 then
                    some (0)
                  else
                    some (1))
                else
                  some (1))
              else
                (bif (if 1 > a3 then 1 else a3) == a3 then
                  (bif intLe (IntKind.i64.wrap (a0 * a1)) 4194304 then
                    some (0)
                  else
                    some (1))
                else
                  some (1)))
            else
              some (1))
          else
            (bif (if 1 > a2 then 1 else a2) == a2 then
              (bif !intLe a3 65536 then
                (bif 65536 == a3 then
                  (bif intLe (IntKind.i64.wrap (a0 * a1)) 4194304 then
                    some (0)
                  else
                    some (1))
                else
                  some (1))
              else
                (bif (if 1 > a3 then 1 else a3) == a3 then
                  (bif intLe (IntKind.i64.wrap (a0 * a1)) 4194304 then
                    some (0)
                  else
                    some (1))
                else
                  some (1)))
            else
              some (1)))
        else
          some (1))
      else
        (bif (if 16 > a1 then 16 else a1) == a1 then
          (bif !intLe a2 4096 then
            (bif 4096 == a2 then
              (bif !intLe a3 65536 then
                (bif 65536 == a3 then
                  (bif intLe (IntKind.i64.wrap (a0 * a1)) 4194304 then
                    some (0)
                  else
                    some (1))
                else
                  some (1))
              else
                (bif (if 1 > a3 then 1 else a3) == a3 then
                  (bif intLe (IntKind.i64.wrap (a0 * a1)) 4194304 then
                    some (0)
                  else
                    some (1))
                else
                  some (1)))
            else
              some (1))
          else
            (bif (if 1 > a2 then 1 else a2) == a2 then
              (bif !intLe a3 65536 then
                (bif 65536 == a3 then
                  (bif intLe (IntKind.i64.wrap (a0 * a1)) 4194304 then
                    some (0)
                  else
                    some (1))
                else
                  some (1))
              else
                (bif (if 1 > a3 then 1 else a3) == a3 then
                  (bif intLe (IntKind.i64.wrap (a0 * a1)) 4194304 then
                    some (0)
                  else
                    some (1))
                else
                  some (1)))
            else
              some (1)))
        else
          some (1)))
    else
      some (1))) : Option Int) := by kernel_rfl
theorem s_plan_Check (a0 : Int) (a1 : Int) (a2 : Int) (a3 : Int) (tt : Nat → TypeId) (nn : Nat → Nat) : callS (β := Int) (envK T0K quietZ Tryz.prog T0 6000 3) 6000 14 [.agg [.int .i64 a0, .int .i64 a1, .int .i64 a2, .int .i64 a3]] (memG 2 (glRows tt nn [])) (fun v _ => outT (.i .i64) v) = some (d_plan_Check a0 a1 a2 a3) := by
  rw [t_plan_Check, d_plan_Check_def]; unfold r_plan_Check; simp only [some_cond]
theorem o_plan_Check : SumOk Tryz.prog 2 14 (pureE [] (.cons (.agg (.cons (.i .i64) (.cons (.i .i64) (.cons (.i .i64) (.cons (.i .i64) .nil))))) .nil) (.i .i64) (fun x => d_plan_Check x.1.1 x.1.2.1 x.1.2.2.1 x.1.2.2.2.1)) := pure_ok T0_ok T0K_ok mixP (N := 6000) (D := 3) (n := 6000) ⟨Tryz.f14, _, Tryz.func14, rfl⟩ (by kernel_rfl) fun tt nn x => s_plan_Check x.1.1 x.1.2.1 x.1.2.2.1 x.1.2.2.2.1 tt nn
def T4_0 : Tab := T0.add 4 (pureE [] (.cons (.agg (.cons (.i .i64) (.cons (.i .i64) (.cons (.i .i64) (.cons (.i .i64) .nil))))) .nil) .b (fun x => d_quitrentref03_May x.1.1 x.1.2.1 x.1.2.2.1 x.1.2.2.2.1))
theorem T4_0_ok : TabOk Tryz.prog T4_0 := T0_ok.add o_quitrentref03_May
abbrev T4_0K : KTab := T0K
theorem T4_0K_ok : KOk T4_0K T4_0 := KOk.past T0K_ok (fun β => rfl)
def T4 : Tab := T4_0.add 14 (pureE [] (.cons (.agg (.cons (.i .i64) (.cons (.i .i64) (.cons (.i .i64) (.cons (.i .i64) .nil))))) .nil) (.i .i64) (fun x => d_plan_Check x.1.1 x.1.2.1 x.1.2.2.1 x.1.2.2.2.1))
theorem T4_ok : TabOk Tryz.prog T4 := T4_0_ok.add o_plan_Check
abbrev T4K : KTab := T4_0K
theorem T4K_ok : KOk T4K T4 := KOk.past T4_0K_ok (fun β => rfl)
end Go.CE
