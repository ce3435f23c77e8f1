/-
  TwinNone: what is reckoned of a configuration that may not be.
-/
import Derived.Test.YtbkclmbfblncoaaGreatDoorT3
import Derived.Test.YtbkclmbfblncoaaGreatDoorT4
import Derived.Test.YtbkclmbfblncoaaGreatDoorCeSi
noncomputable section
namespace Go.CE
open Go Go.Proofs Go.RowKit
set_option maxRecDepth 100000
set_option linter.unusedVariables false
set_option linter.unusedSimpArgs false
theorem low_eq (lo n : Int) : ((if lo > n then lo else n) == n) = decide (lo ≤ n) := by
  by_cases h : lo > n
  · have : ¬ lo ≤ n := by omega
    have h2 : ¬ lo = n := by omega
    simp [h, this, h2]
  · have : lo ≤ n := by omega
    simp [h, this]
theorem high_eq {α : Type} (hi n : Int) (X Y Z : α) : (bif !decide (n ≤ hi) then (bif hi == n then X else Y) else Z) = bif !decide (n ≤ hi) then Y else Z := by
  by_cases h : n ≤ hi
  · simp [h]
  · have h2 : (hi == n) = false := by rw [beq_eq_false_iff_ne]; omega
    rw [h2]; simp [h]
theorem bools : ∀ b1 b2 b3 b4 b5 b6 b7 b8 b9 : Bool, (bif !b1 then false else (bif !b2 then false else (bif !b3 then false else (bif !b4 then false else (bif !b5 then false else (bif !b6 then false else (bif !b7 then false else (bif !b8 then false else (bif b9 then true else false))))))))) = (b1 && b2 && b3 && b4 && b5 && b6 && b7 && b8 && b9) := by decide
theorem may_eq (a b c d : Int) : d_quitrentref03_May a b c d = (decide (1 ≤ a) && decide (a ≤ 1048576) && decide (16 ≤ b) && decide (b ≤ 256) && decide (1 ≤ c) && decide (c ≤ 4096) && decide (1 ≤ d) && decide (d ≤ 65536) && decide (IntKind.i64.wrap (a * b) ≤ 4194304)) := by
  rw [d_quitrentref03_May_def]
  unfold r_quitrentref03_May
  simp only [intLe_dec]
  exact bools _ _ _ _ _ _ _ _ _
theorem check1 (a b c d : Int) (h : d_quitrentref03_May a b c d = false) : d_plan_Check a b c d = 1 := by
  rw [may_eq] at h
  rw [d_plan_Check_def]
  unfold r_plan_Check
  simp only [intLe_dec, low_eq, high_eq]
  revert h
  generalize decide (1 ≤ a) = b1
  generalize decide (a ≤ 1048576) = b2
  generalize decide (16 ≤ b) = b3
  generalize decide (b ≤ 256) = b4
  generalize decide (1 ≤ c) = b5
  generalize decide (c ≤ 4096) = b6
  generalize decide (1 ≤ d) = b7
  generalize decide (d ≤ 65536) = b8
  generalize decide (IntKind.i64.wrap (a * b) ≤ 4194304) = b9
  revert b1 b2 b3 b4 b5 b6 b7 b8 b9
  decide
def TI : Ty := .i .i64
def TC : Ty := .cons (.agg (.cons (.i .i64) (.cons (.i .i64) (.cons (.i .i64) (.cons (.i .i64) .nil))))) .nil
def badC (x : TC.T) : Bool := !d_quitrentref03_May x.1.1 x.1.2.1 x.1.2.2.1 x.1.2.2.2.1
def T5a : Tab := T3.add 4 (pureE [] TC .b (fun x => d_quitrentref03_May x.1.1 x.1.2.1 x.1.2.2.1 x.1.2.2.2.1))
theorem T5a_ok : TabOk Tryz.prog T5a := T3_ok.add o_quitrentref03_May
def T5 : Tab := T5a.add 14 (pureI [] TC (.i .i64) badC (fun _ => (1 : Int)))
theorem T5_ok : TabOk Tryz.prog T5 := T5a_ok.add (pureI_ok o_plan_Check fun x h => check1 _ _ _ _ (by
  have h : (!d_quitrentref03_May x.1.1 x.1.2.1 x.1.2.2.1 x.1.2.2.2.1) = true := h
  simpa using h))
def T5K : KTab := KTab.none.addI 14 [] TC (.i .i64) badC (fun _ => (1 : Int))
theorem T5K_ok : KOk T5K T5 := (KOk.none : KOk KTab.none T5a).addI 14 [] TC (.i .i64) badC (fun _ => (1 : Int))
end Go.CE
