/-
  The program's functions, laid by a program of this session's (zgen.py): level R1.
-/
import Derived.Test.YtlmedbpejncppaaGreatDoorR0
noncomputable section
namespace Go.CE
open Go Go.Proofs Go.RowKit
set_option maxRecDepth 100000
set_option linter.unusedVariables false
set_option linter.unusedSimpArgs false
def r_ground_Ground_Conf (s : GS)  : ((Int × Int × Int × Int × Unit) × GS) :=
  (((s.N, s.W, s.R, s.K, PUnit.unit), s))
def d_ground_Ground_Conf : GS → ((Int × Int × Int × Int × Unit) × GS) := (shut r_ground_Ground_Conf).1
theorem d_ground_Ground_Conf_def : d_ground_Ground_Conf = r_ground_Ground_Conf := (shut r_ground_Ground_Conf).2
theorem t_ground_Ground_Conf (s : GS)  (tt : Nat → TypeId) (nn : Nat → Nat) : callS (β := ((Int × Int × Int × Int × Unit) × GS)) (envK R0K quietZ Tryz.prog R0 6000 3) 6000 21 [.ptr 2 0] (small 2 (glRows tt nn []) s) (finG 2 (.agg (.cons (.i .i64) (.cons (.i .i64) (.cons (.i .i64) (.cons (.i .i64) .nil)))))) =
  (some (((s.N, s.W, s.R, s.K, PUnit.unit), s)) : Option ((Int × Int × Int × Int × Unit) × GS)) := by kernel_rfl
theorem s_ground_Ground_Conf (s : GS)  (tt : Nat → TypeId) (nn : Nat → Nat) : callS (β := ((Int × Int × Int × Int × Unit) × GS)) (envK R0K quietZ Tryz.prog R0 6000 3) 6000 21 [.ptr 2 0] (small 2 (glRows tt nn []) s) (finG 2 (.agg (.cons (.i .i64) (.cons (.i .i64) (.cons (.i .i64) (.cons (.i .i64) .nil)))))) = some (d_ground_Ground_Conf s) := by
  rw [t_ground_Ground_Conf, d_ground_Ground_Conf_def]; unfold r_ground_Ground_Conf; rfl
theorem o_ground_Ground_Conf : SumOk Tryz.prog 2 21 (gE [] .nil (.agg (.cons (.i .i64) (.cons (.i .i64) (.cons (.i .i64) (.cons (.i .i64) .nil))))) (fun s x => d_ground_Ground_Conf s)) := g_ok R0_ok R0K_ok mixP (N := 6000) (D := 3) (n := 6000) ⟨Tryz.f21, _, Tryz.func21, rfl⟩ (by kernel_rfl) fun tt nn s x => s_ground_Ground_Conf s tt nn
def r_ground_Ground_Reg (s : GS) (a0 : Int) : (Int × GS) :=
  (bif !intLe 0 a0 then
    ((0, s))
  else
    (bif intLe 24 a0 then
      ((0, s))
    else
      (bif intLe 0 (IntKind.i64.wrap (0 + a0)) then
        (bif !intLe (Int.ofNat s.n) (IntKind.i64.wrap (0 + a0)) then
          (((IntKind.i64.wrap (intAt s.ws (Nat.add 0 ((toN (IntKind.i64.wrap (0 + a0))).mul 1))),
                  s.upd (IntKind.u64.wrap (s.mt + 1)) s.ws)))
        else
          ((0, s)))
      else
        ((0, s)))))
def d_ground_Ground_Reg : GS → Int → (Int × GS) := (shut r_ground_Ground_Reg).1
theorem d_ground_Ground_Reg_def : d_ground_Ground_Reg = r_ground_Ground_Reg := (shut r_ground_Ground_Reg).2
theorem t_ground_Ground_Reg (s : GS) (a0 : Int) (tt : Nat → TypeId) (nn : Nat → Nat) : callS (β := (Int × GS)) (envK R0K quietZ Tryz.prog R0 6000 3) 6000 99 [.ptr 2 0, .int .i64 a0] (small 2 (glRows tt nn []) s) (finG 2 (.i .i64)) =
  ((bif !intLe 0 a0 then
    some ((0, s))
  else
    (bif intLe 24 a0 then
      some ((0, s))
    else
      (bif intLe 0 (IntKind.i64.wrap (0 + a0)) then
        (bif !intLe (Int.ofNat s.n) (IntKind.i64.wrap (0 + a0)) then
          (bif intIn (IntKind.i64.wrap (0 + a0)) s.n then
            some ((IntKind.i64.wrap (intAt s.ws (Nat.add 0 ((toN (IntKind.i64.wrap (0 + a0))).mul 1))),
                  s.upd (IntKind.u64.wrap (s.mt + 1)) s.ws))
          else
            none)
        else
          some ((0, s)))
      else
        some ((0, s))))) : Option (Int × GS)) := by kernel_rfl
theorem s_ground_Ground_Reg (s : GS) (a0 : Int) (tt : Nat → TypeId) (nn : Nat → Nat) : callS (β := (Int × GS)) (envK R0K quietZ Tryz.prog R0 6000 3) 6000 99 [.ptr 2 0, .int .i64 a0] (small 2 (glRows tt nn []) s) (finG 2 (.i .i64)) = some (d_ground_Ground_Reg s a0) := by
  rw [t_ground_Ground_Reg, d_ground_Ground_Reg_def]; unfold r_ground_Ground_Reg; simp only [drop_in, u64_pos, beq_self_eq_true, cond_true, some_cond]
theorem o_ground_Ground_Reg : SumOk Tryz.prog 2 99 (gE [] (.cons (.i .i64) .nil) (.i .i64) (fun s x => d_ground_Ground_Reg s x.1)) := g_ok R0_ok R0K_ok mixP (N := 6000) (D := 3) (n := 6000) ⟨Tryz.f99, _, Tryz.func99, rfl⟩ (by kernel_rfl) fun tt nn s x => s_ground_Ground_Reg s x.1 tt nn
def r_ground_Ground_SetReg (s : GS) (a0 : Int) (a1 : Int) : (Bool × GS) :=
  (bif !intLe 0 a0 then
    (bif !intLe 0 a1 then
      ((false, s))
    else
      (bif !intLe a1 4294967295 then
        ((false, s))
      else
        ((false, s))))
  else
    (bif intLe 24 a0 then
      (bif !intLe 0 a1 then
        ((false, s))
      else
        (bif !intLe a1 4294967295 then
          ((false, s))
        else
          ((false, s))))
    else
      (bif !intLe 0 a1 then
        ((false, s))
      else
        (bif !intLe a1 4294967295 then
          ((false, s))
        else
          (bif intLe 0 (IntKind.i64.wrap (0 + a0)) then
            (bif !intLe (Int.ofNat s.n) (IntKind.i64.wrap (0 + a0)) then
              (((true,
                      s.upd (IntKind.u64.wrap (s.mt + 1))
                        (s.ws.set (Nat.add 0 ((toN (IntKind.i64.wrap (0 + a0))).mul 1)) (IntKind.u32.wrap a1)))))
            else
              ((false, s)))
          else
            ((false, s)))))))
def d_ground_Ground_SetReg : GS → Int → Int → (Bool × GS) := (shut r_ground_Ground_SetReg).1
theorem d_ground_Ground_SetReg_def : d_ground_Ground_SetReg = r_ground_Ground_SetReg := (shut r_ground_Ground_SetReg).2
theorem t_ground_Ground_SetReg (s : GS) (a0 : Int) (a1 : Int) (tt : Nat → TypeId) (nn : Nat → Nat) : callS (β := (Bool × GS)) (envK R0K quietZ Tryz.prog R0 6000 3) 6000 103 [.ptr 2 0, .int .i64 a0, .int .i64 a1] (small 2 (glRows tt nn []) s) (finG 2 .b) =
  ((bif !intLe 0 a0 then
    (bif !intLe 0 a1 then
      some ((false, s))
    else
      (bif !intLe a1 4294967295 then
        some ((false, s))
      else
        some ((false, s))))
  else
    (bif intLe 24 a0 then
      (bif !intLe 0 a1 then
        some ((false, s))
      else
        (bif !intLe a1 4294967295 then
          some ((false, s))
        else
          some ((false, s))))
    else
      (bif !intLe 0 a1 then
        some ((false, s))
      else
        (bif !intLe a1 4294967295 then
          some ((false, s))
        else
          (bif intLe 0 (IntKind.i64.wrap (0 + a0)) then
            (bif !intLe (Int.ofNat s.n) (IntKind.i64.wrap (0 + a0)) then
              (bif intIn (IntKind.i64.wrap (0 + a0)) s.n then
                some ((true,
                      s.upd (IntKind.u64.wrap (s.mt + 1))
                        (s.ws.set (Nat.add 0 ((toN (IntKind.i64.wrap (0 + a0))).mul 1)) (IntKind.u32.wrap a1))))
              else
                none)
            else
              some ((false, s)))
          else
            some ((false, s))))))) : Option (Bool × GS)) := by kernel_rfl
theorem s_ground_Ground_SetReg (s : GS) (a0 : Int) (a1 : Int) (tt : Nat → TypeId) (nn : Nat → Nat) : callS (β := (Bool × GS)) (envK R0K quietZ Tryz.prog R0 6000 3) 6000 103 [.ptr 2 0, .int .i64 a0, .int .i64 a1] (small 2 (glRows tt nn []) s) (finG 2 .b) = some (d_ground_Ground_SetReg s a0 a1) := by
  rw [t_ground_Ground_SetReg, d_ground_Ground_SetReg_def]; unfold r_ground_Ground_SetReg; simp only [drop_in, u64_pos, beq_self_eq_true, cond_true, some_cond]
theorem o_ground_Ground_SetReg : SumOk Tryz.prog 2 103 (gE [] (.cons (.i .i64) (.cons (.i .i64) .nil)) .b (fun s x => d_ground_Ground_SetReg s x.1 x.2.1)) := g_ok R0_ok R0K_ok mixP (N := 6000) (D := 3) (n := 6000) ⟨Tryz.f103, _, Tryz.func103, rfl⟩ (by kernel_rfl) fun tt nn s x => s_ground_Ground_SetReg s x.1 x.2.1 tt nn
def r_ground_Ground_Word (s : GS) (a0 : Int) (a1 : Int) : (Int × GS) :=
  (bif !intLe 0 a0 then
    ((0, s))
  else
    (bif intLe s.N a0 then
      ((0, s))
    else
      (bif IntKind.i64.wrap (0 + a0) == -1 then
        ((0, s))
      else
        (bif !intLe 0 a1 then
          ((0, s))
        else
          (bif intLe s.W a1 then
            ((0, s))
          else
            (bif intLe 0 (IntKind.i64.wrap (IntKind.i64.wrap (IntKind.i64.wrap (24 + s.R) + IntKind.i64.wrap (a0 * s.W)) + a1)) then
              (bif !intLe (Int.ofNat s.n)
                      (IntKind.i64.wrap (IntKind.i64.wrap (IntKind.i64.wrap (24 + s.R) + IntKind.i64.wrap (a0 * s.W)) + a1)) then
                (((intAt s.ws
                          (Nat.add 0
                            ((toN (IntKind.i64.wrap (IntKind.i64.wrap (IntKind.i64.wrap (24 + s.R) + IntKind.i64.wrap (a0 * s.W)) + a1))).mul
                              1)),
                        s.upd (IntKind.u64.wrap (s.mt + 1)) s.ws)))
              else
                ((0, s)))
            else
              ((0, s))))))))
def d_ground_Ground_Word : GS → Int → Int → (Int × GS) := (shut r_ground_Ground_Word).1
theorem d_ground_Ground_Word_def : d_ground_Ground_Word = r_ground_Ground_Word := (shut r_ground_Ground_Word).2
theorem t_ground_Ground_Word (s : GS) (a0 : Int) (a1 : Int) (tt : Nat → TypeId) (nn : Nat → Nat) : callS (β := (Int × GS)) (envK R0K quietZ Tryz.prog R0 6000 3) 6000 158 [.ptr 2 0, .int .i64 a0, .int .i64 a1] (small 2 (glRows tt nn []) s) (finG 2 (.i .u32)) =
  ((bif !intLe 0 a0 then
    some ((0, s))
  else
    (bif intLe s.N a0 then
      some ((0, s))
    else
      (bif IntKind.i64.wrap (0 + a0) == -1 then
        some ((0, s))
      else
        (bif !intLe 0 a1 then
          some ((0, s))
        else
          (bif intLe s.W a1 then
            some ((0, s))
          else
            (bif intLe 0 (IntKind.i64.wrap (IntKind.i64.wrap (IntKind.i64.wrap (24 + s.R) + IntKind.i64.wrap (a0 * s.W)) + a1)) then
              (bif !intLe (Int.ofNat s.n)
                      (IntKind.i64.wrap (IntKind.i64.wrap (IntKind.i64.wrap (24 + s.R) + IntKind.i64.wrap (a0 * s.W)) + a1)) then
                (bif intIn (IntKind.i64.wrap (IntKind.i64.wrap (IntKind.i64.wrap (24 + s.R) + IntKind.i64.wrap (a0 * s.W)) + a1)) s.n then
                  some ((intAt s.ws
                          (Nat.add 0
                            ((toN (IntKind.i64.wrap (IntKind.i64.wrap (IntKind.i64.wrap (24 + s.R) + IntKind.i64.wrap (a0 * s.W)) + a1))).mul
                              1)),
                        s.upd (IntKind.u64.wrap (s.mt + 1)) s.ws))
                else
                  none)
              else
                some ((0, s)))
            else
              some ((0, s)))))))) : Option (Int × GS)) := by kernel_rfl
theorem s_ground_Ground_Word (s : GS) (a0 : Int) (a1 : Int) (tt : Nat → TypeId) (nn : Nat → Nat) : callS (β := (Int × GS)) (envK R0K quietZ Tryz.prog R0 6000 3) 6000 158 [.ptr 2 0, .int .i64 a0, .int .i64 a1] (small 2 (glRows tt nn []) s) (finG 2 (.i .u32)) = some (d_ground_Ground_Word s a0 a1) := by
  rw [t_ground_Ground_Word, d_ground_Ground_Word_def]; unfold r_ground_Ground_Word; simp only [drop_in, u64_pos, beq_self_eq_true, cond_true, some_cond]
theorem o_ground_Ground_Word : SumOk Tryz.prog 2 158 (gE [] (.cons (.i .i64) (.cons (.i .i64) .nil)) (.i .u32) (fun s x => d_ground_Ground_Word s x.1 x.2.1)) := g_ok R0_ok R0K_ok mixP (N := 6000) (D := 3) (n := 6000) ⟨Tryz.f158, _, Tryz.func158, rfl⟩ (by kernel_rfl) fun tt nn s x => s_ground_Ground_Word s x.1 x.2.1 tt nn
def r_ground_Ground_SetWord (s : GS) (a0 : Int) (a1 : Int) (a2 : Int) : (Bool × GS) :=
  (bif !intLe 0 a0 then
    ((false, s))
  else
    (bif intLe s.N a0 then
      ((false, s))
    else
      (bif IntKind.i64.wrap (0 + a0) == -1 then
        ((false, s))
      else
        (bif !intLe 0 a1 then
          ((false, s))
        else
          (bif intLe s.W a1 then
            ((false, s))
          else
            (bif intLe 0 (IntKind.i64.wrap (IntKind.i64.wrap (IntKind.i64.wrap (24 + s.R) + IntKind.i64.wrap (a0 * s.W)) + a1)) then
              (bif !intLe (Int.ofNat s.n)
                      (IntKind.i64.wrap (IntKind.i64.wrap (IntKind.i64.wrap (24 + s.R) + IntKind.i64.wrap (a0 * s.W)) + a1)) then
                (((true,
                        s.upd (IntKind.u64.wrap (s.mt + 1))
                          (s.ws.set
                            (Nat.add 0
                              ((toN
                                    (IntKind.i64.wrap
                                      (IntKind.i64.wrap (IntKind.i64.wrap (24 + s.R) + IntKind.i64.wrap (a0 * s.W)) + a1))).mul
                                1))
                            a2))))
              else
                ((false, s)))
            else
              ((false, s))))))))
def d_ground_Ground_SetWord : GS → Int → Int → Int → (Bool × GS) := (shut r_ground_Ground_SetWord).1
theorem d_ground_Ground_SetWord_def : d_ground_Ground_SetWord = r_ground_Ground_SetWord := (shut r_ground_Ground_SetWord).2
theorem t_ground_Ground_SetWord (s : GS) (a0 : Int) (a1 : Int) (a2 : Int) (tt : Nat → TypeId) (nn : Nat → Nat) : callS (β := (Bool × GS)) (envK R0K quietZ Tryz.prog R0 6000 3) 6000 102 [.ptr 2 0, .int .i64 a0, .int .i64 a1, .int .u32 a2] (small 2 (glRows tt nn []) s) (finG 2 .b) =
  ((bif !intLe 0 a0 then
    some ((false, s))
  else
    (bif intLe s.N a0 then
      some ((false, s))
    else
      (bif IntKind.i64.wrap (0 + a0) == -1 then
        some ((false, s))
      else
        (bif !intLe 0 a1 then
          some ((false, s))
        else
          (bif intLe s.W a1 then
            some ((false, s))
          else
            (bif intLe 0 (IntKind.i64.wrap (IntKind.i64.wrap (IntKind.i64.wrap (24 + s.R) + IntKind.i64.wrap (a0 * s.W)) + a1)) then
              (bif !intLe (Int.ofNat s.n)
                      (IntKind.i64.wrap (IntKind.i64.wrap (IntKind.i64.wrap (24 + s.R) + IntKind.i64.wrap (a0 * s.W)) + a1)) then
                (bif intIn (IntKind.i64.wrap (IntKind.i64.wrap (IntKind.i64.wrap (24 + s.R) + IntKind.i64.wrap (a0 * s.W)) + a1)) s.n then
                  some ((true,
                        s.upd (IntKind.u64.wrap (s.mt + 1))
                          (s.ws.set
                            (Nat.add 0
                              ((toN
                                    (IntKind.i64.wrap
                                      (IntKind.i64.wrap (IntKind.i64.wrap (24 + s.R) + IntKind.i64.wrap (a0 * s.W)) + a1))).mul
                                1))
                            a2)))
                else
                  none)
              else
                some ((false, s)))
            else
              some ((false, s)))))))) : Option (Bool × GS)) := by kernel_rfl
theorem s_ground_Ground_SetWord (s : GS) (a0 : Int) (a1 : Int) (a2 : Int) (tt : Nat → TypeId) (nn : Nat → Nat) : callS (β := (Bool × GS)) (envK R0K quietZ Tryz.prog R0 6000 3) 6000 102 [.ptr 2 0, .int .i64 a0, .int .i64 a1, .int .u32 a2] (small 2 (glRows tt nn []) s) (finG 2 .b) = some (d_ground_Ground_SetWord s a0 a1 a2) := by
  rw [t_ground_Ground_SetWord, d_ground_Ground_SetWord_def]; unfold r_ground_Ground_SetWord; simp only [drop_in, u64_pos, beq_self_eq_true, cond_true, some_cond]
theorem o_ground_Ground_SetWord : SumOk Tryz.prog 2 102 (gE [] (.cons (.i .i64) (.cons (.i .i64) (.cons (.i .u32) .nil))) .b (fun s x => d_ground_Ground_SetWord s x.1 x.2.1 x.2.2.1)) := g_ok R0_ok R0K_ok mixP (N := 6000) (D := 3) (n := 6000) ⟨Tryz.f102, _, Tryz.func102, rfl⟩ (by kernel_rfl) fun tt nn s x => s_ground_Ground_SetWord s x.1 x.2.1 x.2.2.1 tt nn
def r_ground_Ground_Root (s : GS) (a0 : Int) : (Int × GS) :=
  (bif !intLe 0 a0 then
    ((0, s))
  else
    (bif intLe s.R a0 then
      ((0, s))
    else
      (bif intLe 0 (IntKind.i64.wrap (24 + a0)) then
        (bif !intLe (Int.ofNat s.n) (IntKind.i64.wrap (24 + a0)) then
          (((IntKind.i64.wrap (intAt s.ws (Nat.add 0 ((toN (IntKind.i64.wrap (24 + a0))).mul 1))),
                  s.upd (IntKind.u64.wrap (s.mt + 1)) s.ws)))
        else
          ((0, s)))
      else
        ((0, s)))))
def d_ground_Ground_Root : GS → Int → (Int × GS) := (shut r_ground_Ground_Root).1
theorem d_ground_Ground_Root_def : d_ground_Ground_Root = r_ground_Ground_Root := (shut r_ground_Ground_Root).2
theorem t_ground_Ground_Root (s : GS) (a0 : Int) (tt : Nat → TypeId) (nn : Nat → Nat) : callS (β := (Int × GS)) (envK R0K quietZ Tryz.prog R0 6000 3) 6000 82 [.ptr 2 0, .int .i64 a0] (small 2 (glRows tt nn []) s) (finG 2 (.i .i64)) =
  ((bif !intLe 0 a0 then
    some ((0, s))
  else
    (bif intLe s.R a0 then
      some ((0, s))
    else
      (bif intLe 0 (IntKind.i64.wrap (24 + a0)) then
        (bif !intLe (Int.ofNat s.n) (IntKind.i64.wrap (24 + a0)) then
          (bif intIn (IntKind.i64.wrap (24 + a0)) s.n then
            some ((IntKind.i64.wrap (intAt s.ws (Nat.add 0 ((toN (IntKind.i64.wrap (24 + a0))).mul 1))),
                  s.upd (IntKind.u64.wrap (s.mt + 1)) s.ws))
          else
            none)
        else
          some ((0, s)))
      else
        some ((0, s))))) : Option (Int × GS)) := by kernel_rfl
theorem s_ground_Ground_Root (s : GS) (a0 : Int) (tt : Nat → TypeId) (nn : Nat → Nat) : callS (β := (Int × GS)) (envK R0K quietZ Tryz.prog R0 6000 3) 6000 82 [.ptr 2 0, .int .i64 a0] (small 2 (glRows tt nn []) s) (finG 2 (.i .i64)) = some (d_ground_Ground_Root s a0) := by
  rw [t_ground_Ground_Root, d_ground_Ground_Root_def]; unfold r_ground_Ground_Root; simp only [drop_in, u64_pos, beq_self_eq_true, cond_true, some_cond]
theorem o_ground_Ground_Root : SumOk Tryz.prog 2 82 (gE [] (.cons (.i .i64) .nil) (.i .i64) (fun s x => d_ground_Ground_Root s x.1)) := g_ok R0_ok R0K_ok mixP (N := 6000) (D := 3) (n := 6000) ⟨Tryz.f82, _, Tryz.func82, rfl⟩ (by kernel_rfl) fun tt nn s x => s_ground_Ground_Root s x.1 tt nn
def r_ground_Ground_SetRoot (s : GS) (a0 : Int) (a1 : Int) : (Bool × GS) :=
  (bif !intLe 0 a0 then
    (bif !intLe 0 a1 then
      ((false, s))
    else
      (bif !intLe a1 4294967295 then
        ((false, s))
      else
        ((false, s))))
  else
    (bif intLe s.R a0 then
      (bif !intLe 0 a1 then
        ((false, s))
      else
        (bif !intLe a1 4294967295 then
          ((false, s))
        else
          ((false, s))))
    else
      (bif !intLe 0 a1 then
        ((false, s))
      else
        (bif !intLe a1 4294967295 then
          ((false, s))
        else
          (bif intLe 0 (IntKind.i64.wrap (24 + a0)) then
            (bif !intLe (Int.ofNat s.n) (IntKind.i64.wrap (24 + a0)) then
              (((true,
                      s.upd (IntKind.u64.wrap (s.mt + 1))
                        (s.ws.set (Nat.add 0 ((toN (IntKind.i64.wrap (24 + a0))).mul 1)) (IntKind.u32.wrap a1)))))
            else
              ((false, s)))
          else
            ((false, s)))))))
def d_ground_Ground_SetRoot : GS → Int → Int → (Bool × GS) := (shut r_ground_Ground_SetRoot).1
theorem d_ground_Ground_SetRoot_def : d_ground_Ground_SetRoot = r_ground_Ground_SetRoot := (shut r_ground_Ground_SetRoot).2
theorem t_ground_Ground_SetRoot (s : GS) (a0 : Int) (a1 : Int) (tt : Nat → TypeId) (nn : Nat → Nat) : callS (β := (Bool × GS)) (envK R0K quietZ Tryz.prog R0 6000 3) 6000 120 [.ptr 2 0, .int .i64 a0, .int .i64 a1] (small 2 (glRows tt nn []) s) (finG 2 .b) =
  ((bif !intLe 0 a0 then
    (bif !intLe 0 a1 then
      some ((false, s))
    else
      (bif !intLe a1 4294967295 then
        some ((false, s))
      else
        some ((false, s))))
  else
    (bif intLe s.R a0 then
      (bif !intLe 0 a1 then
        some ((false, s))
      else
        (bif !intLe a1 4294967295 then
          some ((false, s))
        else
          some ((false, s))))
    else
      (bif !intLe 0 a1 then
        some ((false, s))
      else
        (bif !intLe a1 4294967295 then
          some ((false, s))
        else
          (bif intLe 0 (IntKind.i64.wrap (24 + a0)) then
            (bif !intLe (Int.ofNat s.n) (IntKind.i64.wrap (24 + a0)) then
              (bif intIn (IntKind.i64.wrap (24 + a0)) s.n then
                some ((true,
                      s.upd (IntKind.u64.wrap (s.mt + 1))
                        (s.ws.set (Nat.add 0 ((toN (IntKind.i64.wrap (24 + a0))).mul 1)) (IntKind.u32.wrap a1))))
              else
                none)
            else
              some ((false, s)))
          else
            some ((false, s))))))) : Option (Bool × GS)) := by kernel_rfl
theorem s_ground_Ground_SetRoot (s : GS) (a0 : Int) (a1 : Int) (tt : Nat → TypeId) (nn : Nat → Nat) : callS (β := (Bool × GS)) (envK R0K quietZ Tryz.prog R0 6000 3) 6000 120 [.ptr 2 0, .int .i64 a0, .int .i64 a1] (small 2 (glRows tt nn []) s) (finG 2 .b) = some (d_ground_Ground_SetRoot s a0 a1) := by
  rw [t_ground_Ground_SetRoot, d_ground_Ground_SetRoot_def]; unfold r_ground_Ground_SetRoot; simp only [drop_in, u64_pos, beq_self_eq_true, cond_true, some_cond]
theorem o_ground_Ground_SetRoot : SumOk Tryz.prog 2 120 (gE [] (.cons (.i .i64) (.cons (.i .i64) .nil)) .b (fun s x => d_ground_Ground_SetRoot s x.1 x.2.1)) := g_ok R0_ok R0K_ok mixP (N := 6000) (D := 3) (n := 6000) ⟨Tryz.f120, _, Tryz.func120, rfl⟩ (by kernel_rfl) fun tt nn s x => s_ground_Ground_SetRoot s x.1 x.2.1 tt nn
def r_ground_Ground_SeeReg (s : GS) (a0 : Int) : (Int × GS) :=
  (bif !intLe 0 a0 then
    ((0, s))
  else
    (bif intLe 24 a0 then
      ((0, s))
    else
      (bif intLe 0 (IntKind.i64.wrap (0 + a0)) then
        (bif !intLe (Int.ofNat s.n) (IntKind.i64.wrap (0 + a0)) then
          (((IntKind.i64.wrap (intAt s.ws (Nat.add 0 ((toN (IntKind.i64.wrap (0 + a0))).mul 1))), s)))
        else
          ((0, s)))
      else
        ((0, s)))))
def d_ground_Ground_SeeReg : GS → Int → (Int × GS) := (shut r_ground_Ground_SeeReg).1
theorem d_ground_Ground_SeeReg_def : d_ground_Ground_SeeReg = r_ground_Ground_SeeReg := (shut r_ground_Ground_SeeReg).2
theorem t_ground_Ground_SeeReg (s : GS) (a0 : Int) (tt : Nat → TypeId) (nn : Nat → Nat) : callS (β := (Int × GS)) (envK R0K quietZ Tryz.prog R0 6000 3) 6000 88 [.ptr 2 0, .int .i64 a0] (small 2 (glRows tt nn []) s) (finG 2 (.i .i64)) =
  ((bif !intLe 0 a0 then
    some ((0, s))
  else
    (bif intLe 24 a0 then
      some ((0, s))
    else
      (bif intLe 0 (IntKind.i64.wrap (0 + a0)) then
        (bif !intLe (Int.ofNat s.n) (IntKind.i64.wrap (0 + a0)) then
          (bif intIn (IntKind.i64.wrap (0 + a0)) s.n then
            some ((IntKind.i64.wrap (intAt s.ws (Nat.add 0 ((toN (IntKind.i64.wrap (0 + a0))).mul 1))), s))
          else
            none)
        else
          some ((0, s)))
      else
        some ((0, s))))) : Option (Int × GS)) := by kernel_rfl
theorem s_ground_Ground_SeeReg (s : GS) (a0 : Int) (tt : Nat → TypeId) (nn : Nat → Nat) : callS (β := (Int × GS)) (envK R0K quietZ Tryz.prog R0 6000 3) 6000 88 [.ptr 2 0, .int .i64 a0] (small 2 (glRows tt nn []) s) (finG 2 (.i .i64)) = some (d_ground_Ground_SeeReg s a0) := by
  rw [t_ground_Ground_SeeReg, d_ground_Ground_SeeReg_def]; unfold r_ground_Ground_SeeReg; simp only [drop_in, u64_pos, beq_self_eq_true, cond_true, some_cond]
theorem o_ground_Ground_SeeReg : SumOk Tryz.prog 2 88 (gE [] (.cons (.i .i64) .nil) (.i .i64) (fun s x => d_ground_Ground_SeeReg s x.1)) := g_ok R0_ok R0K_ok mixP (N := 6000) (D := 3) (n := 6000) ⟨Tryz.f88, _, Tryz.func88, rfl⟩ (by kernel_rfl) fun tt nn s x => s_ground_Ground_SeeReg s x.1 tt nn
def r_ground_Ground_SeeWord (s : GS) (a0 : Int) (a1 : Int) : (Int × GS) :=
  (bif !intLe 0 a0 then
    ((0, s))
  else
    (bif intLe s.N a0 then
      ((0, s))
    else
      (bif IntKind.i64.wrap (0 + a0) == -1 then
        ((0, s))
      else
        (bif !intLe 0 a1 then
          ((0, s))
        else
          (bif intLe s.W a1 then
            ((0, s))
          else
            (bif intLe 0 (IntKind.i64.wrap (IntKind.i64.wrap (IntKind.i64.wrap (24 + s.R) + IntKind.i64.wrap (a0 * s.W)) + a1)) then
              (bif !intLe (Int.ofNat s.n)
                      (IntKind.i64.wrap (IntKind.i64.wrap (IntKind.i64.wrap (24 + s.R) + IntKind.i64.wrap (a0 * s.W)) + a1)) then
                (((intAt s.ws
                          (Nat.add 0
                            ((toN (IntKind.i64.wrap (IntKind.i64.wrap (IntKind.i64.wrap (24 + s.R) + IntKind.i64.wrap (a0 * s.W)) + a1))).mul
                              1)),
                        s)))
              else
                ((0, s)))
            else
              ((0, s))))))))
def d_ground_Ground_SeeWord : GS → Int → Int → (Int × GS) := (shut r_ground_Ground_SeeWord).1
theorem d_ground_Ground_SeeWord_def : d_ground_Ground_SeeWord = r_ground_Ground_SeeWord := (shut r_ground_Ground_SeeWord).2
theorem t_ground_Ground_SeeWord (s : GS) (a0 : Int) (a1 : Int) (tt : Nat → TypeId) (nn : Nat → Nat) : callS (β := (Int × GS)) (envK R0K quietZ Tryz.prog R0 6000 3) 6000 60 [.ptr 2 0, .int .i64 a0, .int .i64 a1] (small 2 (glRows tt nn []) s) (finG 2 (.i .u32)) =
  ((bif !intLe 0 a0 then
    some ((0, s))
  else
    (bif intLe s.N a0 then
      some ((0, s))
    else
      (bif IntKind.i64.wrap (0 + a0) == -1 then
        some ((0, s))
      else
        (bif !intLe 0 a1 then
          some ((0, s))
        else
          (bif intLe s.W a1 then
            some ((0, s))
          else
            (bif intLe 0 (IntKind.i64.wrap (IntKind.i64.wrap (IntKind.i64.wrap (24 + s.R) + IntKind.i64.wrap (a0 * s.W)) + a1)) then
              (bif !intLe (Int.ofNat s.n)
                      (IntKind.i64.wrap (IntKind.i64.wrap (IntKind.i64.wrap (24 + s.R) + IntKind.i64.wrap (a0 * s.W)) + a1)) then
                (bif intIn (IntKind.i64.wrap (IntKind.i64.wrap (IntKind.i64.wrap (24 + s.R) + IntKind.i64.wrap (a0 * s.W)) + a1)) s.n then
                  some ((intAt s.ws
                          (Nat.add 0
                            ((toN (IntKind.i64.wrap (IntKind.i64.wrap (IntKind.i64.wrap (24 + s.R) + IntKind.i64.wrap (a0 * s.W)) + a1))).mul
                              1)),
                        s))
                else
                  none)
              else
                some ((0, s)))
            else
              some ((0, s)))))))) : Option (Int × GS)) := by kernel_rfl
theorem s_ground_Ground_SeeWord (s : GS) (a0 : Int) (a1 : Int) (tt : Nat → TypeId) (nn : Nat → Nat) : callS (β := (Int × GS)) (envK R0K quietZ Tryz.prog R0 6000 3) 6000 60 [.ptr 2 0, .int .i64 a0, .int .i64 a1] (small 2 (glRows tt nn []) s) (finG 2 (.i .u32)) = some (d_ground_Ground_SeeWord s a0 a1) := by
  rw [t_ground_Ground_SeeWord, d_ground_Ground_SeeWord_def]; unfold r_ground_Ground_SeeWord; simp only [drop_in, u64_pos, beq_self_eq_true, cond_true, some_cond]
theorem o_ground_Ground_SeeWord : SumOk Tryz.prog 2 60 (gE [] (.cons (.i .i64) (.cons (.i .i64) .nil)) (.i .u32) (fun s x => d_ground_Ground_SeeWord s x.1 x.2.1)) := g_ok R0_ok R0K_ok mixP (N := 6000) (D := 3) (n := 6000) ⟨Tryz.f60, _, Tryz.func60, rfl⟩ (by kernel_rfl) fun tt nn s x => s_ground_Ground_SeeWord s x.1 x.2.1 tt nn
def r_ground_Ground_SeeRoot (s : GS) (a0 : Int) : (Int × GS) :=
  (bif !intLe 0 a0 then
    ((0, s))
  else
    (bif intLe s.R a0 then
      ((0, s))
    else
      (bif intLe 0 (IntKind.i64.wrap (24 + a0)) then
        (bif !intLe (Int.ofNat s.n) (IntKind.i64.wrap (24 + a0)) then
          (((IntKind.i64.wrap (intAt s.ws (Nat.add 0 ((toN (IntKind.i64.wrap (24 + a0))).mul 1))), s)))
        else
          ((0, s)))
      else
        ((0, s)))))
def d_ground_Ground_SeeRoot : GS → Int → (Int × GS) := (shut r_ground_Ground_SeeRoot).1
theorem d_ground_Ground_SeeRoot_def : d_ground_Ground_SeeRoot = r_ground_Ground_SeeRoot := (shut r_ground_Ground_SeeRoot).2
theorem t_ground_Ground_SeeRoot (s : GS) (a0 : Int) (tt : Nat → TypeId) (nn : Nat → Nat) : callS (β := (Int × GS)) (envK R0K quietZ Tryz.prog R0 6000 3) 6000 31 [.ptr 2 0, .int .i64 a0] (small 2 (glRows tt nn []) s) (finG 2 (.i .i64)) =
  ((bif !intLe 0 a0 then
    some ((0, s))
  else
    (bif intLe s.R a0 then
      some ((0, s))
    else
      (bif intLe 0 (IntKind.i64.wrap (24 + a0)) then
        (bif !intLe (Int.ofNat s.n) (IntKind.i64.wrap (24 + a0)) then
          (bif intIn (IntKind.i64.wrap (24 + a0)) s.n then
            some ((IntKind.i64.wrap (intAt s.ws (Nat.add 0 ((toN (IntKind.i64.wrap (24 + a0))).mul 1))), s))
          else
            none)
        else
          some ((0, s)))
      else
        some ((0, s))))) : Option (Int × GS)) := by kernel_rfl
theorem s_ground_Ground_SeeRoot (s : GS) (a0 : Int) (tt : Nat → TypeId) (nn : Nat → Nat) : callS (β := (Int × GS)) (envK R0K quietZ Tryz.prog R0 6000 3) 6000 31 [.ptr 2 0, .int .i64 a0] (small 2 (glRows tt nn []) s) (finG 2 (.i .i64)) = some (d_ground_Ground_SeeRoot s a0) := by
  rw [t_ground_Ground_SeeRoot, d_ground_Ground_SeeRoot_def]; unfold r_ground_Ground_SeeRoot; simp only [drop_in, u64_pos, beq_self_eq_true, cond_true, some_cond]
theorem o_ground_Ground_SeeRoot : SumOk Tryz.prog 2 31 (gE [] (.cons (.i .i64) .nil) (.i .i64) (fun s x => d_ground_Ground_SeeRoot s x.1)) := g_ok R0_ok R0K_ok mixP (N := 6000) (D := 3) (n := 6000) ⟨Tryz.f31, _, Tryz.func31, rfl⟩ (by kernel_rfl) fun tt nn s x => s_ground_Ground_SeeRoot s x.1 tt nn
def R1_0 : Tab := R0.add 21 (gE [] .nil (.agg (.cons (.i .i64) (.cons (.i .i64) (.cons (.i .i64) (.cons (.i .i64) .nil))))) (fun s x => d_ground_Ground_Conf s))
theorem R1_0_ok : TabOk Tryz.prog R1_0 := R0_ok.add o_ground_Ground_Conf
abbrev R1_0K : KTab := R0K
theorem R1_0K_ok : KOk R1_0K R1_0 := KOk.past R0K_ok (fun β => rfl)
def R1_1 : Tab := R1_0.add 99 (gE [] (.cons (.i .i64) .nil) (.i .i64) (fun s x => d_ground_Ground_Reg s x.1))
theorem R1_1_ok : TabOk Tryz.prog R1_1 := R1_0_ok.add o_ground_Ground_Reg
abbrev R1_1K : KTab := R1_0K
theorem R1_1K_ok : KOk R1_1K R1_1 := KOk.past R1_0K_ok (fun β => rfl)
def R1_2 : Tab := R1_1.add 103 (gE [] (.cons (.i .i64) (.cons (.i .i64) .nil)) .b (fun s x => d_ground_Ground_SetReg s x.1 x.2.1))
theorem R1_2_ok : TabOk Tryz.prog R1_2 := R1_1_ok.add o_ground_Ground_SetReg
abbrev R1_2K : KTab := R1_1K
theorem R1_2K_ok : KOk R1_2K R1_2 := KOk.past R1_1K_ok (fun β => rfl)
def R1_3 : Tab := R1_2.add 158 (gE [] (.cons (.i .i64) (.cons (.i .i64) .nil)) (.i .u32) (fun s x => d_ground_Ground_Word s x.1 x.2.1))
theorem R1_3_ok : TabOk Tryz.prog R1_3 := R1_2_ok.add o_ground_Ground_Word
abbrev R1_3K : KTab := R1_2K
theorem R1_3K_ok : KOk R1_3K R1_3 := KOk.past R1_2K_ok (fun β => rfl)
def R1_4 : Tab := R1_3.add 102 (gE [] (.cons (.i .i64) (.cons (.i .i64) (.cons (.i .u32) .nil))) .b (fun s x => d_ground_Ground_SetWord s x.1 x.2.1 x.2.2.1))
theorem R1_4_ok : TabOk Tryz.prog R1_4 := R1_3_ok.add o_ground_Ground_SetWord
abbrev R1_4K : KTab := R1_3K
theorem R1_4K_ok : KOk R1_4K R1_4 := KOk.past R1_3K_ok (fun β => rfl)
def R1_5 : Tab := R1_4.add 82 (gE [] (.cons (.i .i64) .nil) (.i .i64) (fun s x => d_ground_Ground_Root s x.1))
theorem R1_5_ok : TabOk Tryz.prog R1_5 := R1_4_ok.add o_ground_Ground_Root
abbrev R1_5K : KTab := R1_4K
theorem R1_5K_ok : KOk R1_5K R1_5 := KOk.past R1_4K_ok (fun β => rfl)
def R1_6 : Tab := R1_5.add 120 (gE [] (.cons (.i .i64) (.cons (.i .i64) .nil)) .b (fun s x => d_ground_Ground_SetRoot s x.1 x.2.1))
theorem R1_6_ok : TabOk Tryz.prog R1_6 := R1_5_ok.add o_ground_Ground_SetRoot
abbrev R1_6K : KTab := R1_5K
theorem R1_6K_ok : KOk R1_6K R1_6 := KOk.past R1_5K_ok (fun β => rfl)
def R1_7 : Tab := R1_6.add 88 (gE [] (.cons (.i .i64) .nil) (.i .i64) (fun s x => d_ground_Ground_SeeReg s x.1))
theorem R1_7_ok : TabOk Tryz.prog R1_7 := R1_6_ok.add o_ground_Ground_SeeReg
abbrev R1_7K : KTab := R1_6K
theorem R1_7K_ok : KOk R1_7K R1_7 := KOk.past R1_6K_ok (fun β => rfl)
def R1_8 : Tab := R1_7.add 60 (gE [] (.cons (.i .i64) (.cons (.i .i64) .nil)) (.i .u32) (fun s x => d_ground_Ground_SeeWord s x.1 x.2.1))
theorem R1_8_ok : TabOk Tryz.prog R1_8 := R1_7_ok.add o_ground_Ground_SeeWord
abbrev R1_8K : KTab := R1_7K
theorem R1_8K_ok : KOk R1_8K R1_8 := KOk.past R1_7K_ok (fun β => rfl)
def R1 : Tab := R1_8.add 31 (gE [] (.cons (.i .i64) .nil) (.i .i64) (fun s x => d_ground_Ground_SeeRoot s x.1))
theorem R1_ok : TabOk Tryz.prog R1 := R1_8_ok.add o_ground_Ground_SeeRoot
abbrev R1K : KTab := R1_8K
theorem R1K_ok : KOk R1K R1 := KOk.past R1_8K_ok (fun β => rfl)
end Go.CE
