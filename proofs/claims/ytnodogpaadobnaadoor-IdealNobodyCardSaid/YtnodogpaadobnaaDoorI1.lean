/-
  IDEAL, 1: seat D: which configurations may be; what a nil ideal answers; the chapter's example of law 23.
-/
import Derived.Test.YtnodogpaadobnaaDoorCeSd
import Derived.Test.YtnodogpaadobnaaDoorProg
import Derived.KernelRfl
open Go Go.CE Go.Proofs Go.RowKit
set_option maxRecDepth 100000
set_option linter.unusedVariables false
set_option linter.unusedSimpArgs false
namespace Go.CE
noncomputable section
def nameVs : List V := [.str [], .str [97, 108, 108, 111, 99], .str [108, 111, 97, 100], .str [115, 116, 111, 114, 101], .str [114, 101, 97, 100], .str [119, 114, 105, 116, 101], .str [99, 111, 112, 121], .str [100, 114, 111, 112], .str [115, 97, 109, 101], .str [108, 101, 110], .str [116, 105, 99, 107]]
def tab0 : Tab := ⟨1, fun f => bif Nat.beq f 158 then some addX else none, fun _ => none⟩
def d_within (a b c : Int) : Bool := (bif !intLe a c then
  (bif c == a then
    (true)
  else
    (false))
else
  (bif (if b > a then b else a) == a then
    (true)
  else
    (false)))
def d_may (a b c d : Int) : Bool := (bif !intLe 1 a then
  (false)
else
  (bif !intLe a 1048576 then
    (false)
  else
    (bif !intLe 16 b then
      (false)
    else
      (bif !intLe b 256 then
        (false)
      else
        (bif !intLe 1 c then
          (false)
        else
          (bif !intLe c 4096 then
            (false)
          else
            (bif !intLe 1 d then
              (false)
            else
              (bif !intLe d 65536 then
                (false)
              else
                (bif intLe (IntKind.i64.wrap (a * b)) 4194304 then
                  (true)
                else
                  (false))))))))))
def TI : Ty := .i .i64
def TConf : Ty := .cons (.agg (.cons (.i .i64) (.cons (.i .i64) (.cons (.i .i64) (.cons (.i .i64) .nil))))) .nil
theorem t83 (a b c : Int) (tt : Nat → TypeId) (nn : Nat → Nat) : callS (β := Bool) (envS Tryd.prog tab0 3000 3) 3000 83 [.int .i64 a, .int .i64 b, .int .i64 c] (memG 1 (glRows tt nn [])) (fun v _ => outT .b v) = (bif !intLe a c then
  (bif c == a then
    some (true)
  else
    some (false))
else
  (bif (if b > a then b else a) == a then
    some (true)
  else
    some (false))) := by kernel_rfl
theorem t24 (a b c d : Int) (tt : Nat → TypeId) (nn : Nat → Nat) : callS (β := Bool) (envS Tryd.prog tab0 3000 3) 3000 24 [.agg [.int .i64 a, .int .i64 b, .int .i64 c, .int .i64 d]] (memG 1 (glRows tt nn [])) (fun v _ => outT .b v) = (bif !intLe 1 a then
  some (false)
else
  (bif !intLe a 1048576 then
    some (false)
  else
    (bif !intLe 16 b then
      some (false)
    else
      (bif !intLe b 256 then
        some (false)
      else
        (bif !intLe 1 c then
          some (false)
        else
          (bif !intLe c 4096 then
            some (false)
          else
            (bif !intLe 1 d then
              some (false)
            else
              (bif !intLe d 65536 then
                some (false)
              else
                (bif intLe (IntKind.i64.wrap (a * b)) 4194304 then
                  some (true)
                else
                  some (false)))))))))) := by kernel_rfl
def tab1 : Tab := tab0.add 83 (pureE [] (.cons TI (.cons TI (.cons TI .nil))) .b (fun x => d_within x.1 x.2.1 x.2.2.1))
def tab2 : Tab := tab1.add 24 (pureE [] TConf .b (fun x => d_may x.1.1 x.1.2.1 x.1.2.2.1 x.1.2.2.2.1))
def d_check (a b c d : Int) : Int := (bif d_within a 1 1048576 then
  (bif d_within b 16 256 then
    (bif d_within c 1 4096 then
      (bif d_within d 1 65536 then
        (bif intLe (IntKind.i64.wrap (a * b)) 4194304 then
          (0)
        else
          (1))
      else
        (1))
    else
      (1))
  else
    (1))
else
  (1))
def tab3 : Tab := tab2.add 42 (pureE [] TConf TI (fun x => d_check x.1.1 x.1.2.1 x.1.2.2.1 x.1.2.2.2.1))
def tab4 : Tab := tab3.add 14 (pureE [(0, nameVs)] .nil .b (fun _ => true))
theorem t42 (a b c d : Int) (tt : Nat → TypeId) (nn : Nat → Nat) : callS (β := Int) (envS Tryd.prog tab2 3000 3) 3000 42 [.agg [.int .i64 a, .int .i64 b, .int .i64 c, .int .i64 d]] (memG 1 (glRows tt nn [])) (fun v _ => outT (.i .i64) v) = (bif d_within a 1 1048576 then
  (bif d_within b 16 256 then
    (bif d_within c 1 4096 then
      (bif d_within d 1 65536 then
        (bif intLe (IntKind.i64.wrap (a * b)) 4194304 then
          some (0)
        else
          some (1))
      else
        some (1))
    else
      some (1))
  else
    some (1))
else
  some (1)) := by kernel_rfl
theorem t14 (tt : Nat → TypeId) (nn : Nat → Nat) : callS (β := Bool) (envS Tryd.prog tab3 20000 6) 60000 14 [] (memG 1 (glRows tt nn [(0, nameVs)])) (fun v _ => outT .b v) = some true := by kernel_rfl
theorem t7 (a b c d k x y z v at_ : Int) (tt : Nat → TypeId) (nn : Nat → Nat) : callS (β := Bool) (envS Tryd.prog tab4 3000 3) 3000 7 [.agg [.int .i64 a, .int .i64 b, .int .i64 c, .int .i64 d], .agg [.int .i64 k, .int .i64 x, .int .i64 y, .int .i64 z, .int .u32 v], .int .i64 at_] (memG 1 (glRows tt nn [(0, nameVs)])) (fun v _ => outT .b v) = (bif intLe 1 at_ then
  (bif intLe at_ 0 then
    none
  else
    (bif intLe 1 at_ then
      (bif intLe at_ 0 then
        none
      else
        (bif d_check a b c d != 0 then
          (bif d_may a b c d then
            some (false)
          else
            (bif d_check a b c d == 0 then
              some (false)
            else
              (bif d_check a b c d == 1 then
                some (true)
              else
                some (false))))
        else
          (bif intLe 0 c then
            (bif intLe 0 c then
              (bif (toN c).ble (toN c) then
                (bif (8 * toN c).ble 281474976710656 then
                  (bif (toN c).ble 281474976710656 then
                    (bif d_may a b c d then
                      some (true)
                    else
                      some (false))
                  else
                    none)
                else
                  none)
              else
                none)
            else
              none)
          else
            none)))
    else
      (bif d_check a b c d != 0 then
        (bif d_may a b c d then
          some (false)
        else
          (bif d_check a b c d == 0 then
            some (false)
          else
            (bif d_check a b c d == 1 then
              some (true)
            else
              some (false))))
      else
        (bif intLe 0 c then
          (bif intLe 0 c then
            (bif (toN c).ble (toN c) then
              (bif (8 * toN c).ble 281474976710656 then
                (bif (toN c).ble 281474976710656 then
                  (bif d_may a b c d then
                    some (true)
                  else
                    some (false))
                else
                  none)
              else
                none)
            else
              none)
          else
            none)
        else
          none))))
else
  (bif intLe 1 at_ then
    (bif intLe at_ 0 then
      none
    else
      (bif d_check a b c d != 0 then
        (bif d_may a b c d then
          some (false)
        else
          (bif d_check a b c d == 0 then
            some (false)
          else
            (bif d_check a b c d == 1 then
              some (true)
            else
              some (false))))
      else
        (bif intLe 0 c then
          (bif intLe 0 c then
            (bif (toN c).ble (toN c) then
              (bif (8 * toN c).ble 281474976710656 then
                (bif (toN c).ble 281474976710656 then
                  (bif d_may a b c d then
                    some (true)
                  else
                    some (false))
                else
                  none)
              else
                none)
            else
              none)
          else
            none)
        else
          none)))
  else
    (bif d_check a b c d != 0 then
      (bif d_may a b c d then
        some (false)
      else
        (bif d_check a b c d == 0 then
          some (false)
        else
          (bif d_check a b c d == 1 then
            some (true)
          else
            some (false))))
    else
      (bif intLe 0 c then
        (bif intLe 0 c then
          (bif (toN c).ble (toN c) then
            (bif (8 * toN c).ble 281474976710656 then
              (bif (toN c).ble 281474976710656 then
                (bif d_may a b c d then
                  some (true)
                else
                  some (false))
              else
                none)
            else
              none)
          else
            none)
        else
          none)
      else
        none)))) := by kernel_rfl
theorem intLe_dec (a b : Int) : intLe a b = decide (a ≤ b) := intLe_eq a b
theorem some_cond {α : Type} (c : Bool) (a b : α) : some (bif c then a else b) = bif c then some a else some b := by cases c <;> rfl
theorem d_check_eq (a b c d : Int) : d_check a b c d = bif d_may a b c d then 0 else 1 := by
  have q : ∀ (lo hi n : Int), lo ≤ hi → d_within n lo hi = (decide (lo ≤ n) && decide (n ≤ hi)) := fun lo hi n h => by
    unfold d_within
    simp only [intLe_dec]
    rw [Bool.eq_iff_iff]
    by_cases h1 : n ≤ hi
    · by_cases h2 : lo > n
      · simp [h1, h2]; omega
      · simp [h1, h2]; omega
    · simp [h1]; omega
  unfold d_check d_may
  rw [q 1 1048576 a (by omega), q 16 256 b (by omega), q 1 4096 c (by omega), q 1 65536 d (by omega)]
  simp only [intLe_dec]
  by_cases h1 : (1 : Int) ≤ a <;> by_cases h2 : a ≤ 1048576 <;> by_cases h3 : (16 : Int) ≤ b <;> by_cases h4 : b ≤ 256 <;> by_cases h5 : (1 : Int) ≤ c <;> by_cases h6 : c ≤ 4096 <;> by_cases h7 : (1 : Int) ≤ d <;> by_cases h8 : d ≤ 65536 <;> simp [h1, h2, h3, h4, h5, h6, h7, h8]
theorem d_may_c {a b c d : Int} (h : d_may a b c d = true) : 0 ≤ c ∧ c ≤ 4096 := by
  unfold d_may at h
  simp only [intLe_dec] at h
  by_cases h5 : (1 : Int) ≤ c
  · by_cases h6 : c ≤ 4096
    · omega
    · simp [h5, h6] at h
  · simp [h5] at h
theorem f7_true (a b c d k x y z v at_ : Int) (tt : Nat → TypeId) (nn : Nat → Nat) : callS (β := Bool) (envS Tryd.prog tab4 3000 3) 3000 7 [.agg [.int .i64 a, .int .i64 b, .int .i64 c, .int .i64 d], .agg [.int .i64 k, .int .i64 x, .int .i64 y, .int .i64 z, .int .u32 v], .int .i64 at_] (memG 1 (glRows tt nn [(0, nameVs)])) (fun v _ => outT .b v) = some true := by
  rw [t7]
  have hc := d_check_eq a b c d
  simp only [intLe_dec]
  cases hm : d_may a b c d with
  | false =>
    rw [hm] at hc
    simp only [hc, cond_false]
    by_cases h1 : (1 : Int) ≤ at_
    · have h2 : ¬ (at_ ≤ 0) := by omega
      simp [h1, h2]
    · simp [h1]
  | true =>
    rw [hm] at hc
    obtain ⟨h5, h6⟩ := d_may_c hm
    have e1 : toN c = c.toNat := by cases c <;> rfl
    have e2 : (toN c).ble (toN c) = true := Nat.ble_eq_true_of_le (Nat.le_refl _)
    have e3 : (8 * toN c).ble 281474976710656 = true := Nat.ble_eq_true_of_le (by omega)
    have e4 : (toN c).ble 281474976710656 = true := Nat.ble_eq_true_of_le (by omega)
    simp only [hc, cond_true]
    by_cases h1 : (1 : Int) ≤ at_
    · have h2 : ¬ (at_ ≤ 0) := by omega
      simp [h1, h2, h5, e2, e3, e4]
    · simp [h1, h5, e2, e3, e4]
theorem s83 (a b c : Int) (tt : Nat → TypeId) (nn : Nat → Nat) : callS (β := Bool) (envS Tryd.prog tab0 3000 3) 3000 83 [.int .i64 a, .int .i64 b, .int .i64 c] (memG 1 (glRows tt nn [])) (fun v _ => outT .b v) = some (d_within a b c) := by
  rw [t83]; unfold d_within; simp only [some_cond]
theorem s24 (a b c d : Int) (tt : Nat → TypeId) (nn : Nat → Nat) : callS (β := Bool) (envS Tryd.prog tab0 3000 3) 3000 24 [.agg [.int .i64 a, .int .i64 b, .int .i64 c, .int .i64 d]] (memG 1 (glRows tt nn [])) (fun v _ => outT .b v) = some (d_may a b c d) := by
  rw [t24]; unfold d_may; simp only [some_cond]
theorem s42 (a b c d : Int) (tt : Nat → TypeId) (nn : Nat → Nat) : callS (β := Int) (envS Tryd.prog tab2 3000 3) 3000 42 [.agg [.int .i64 a, .int .i64 b, .int .i64 c, .int .i64 d]] (memG 1 (glRows tt nn [])) (fun v _ => outT (.i .i64) v) = some (d_check a b c d) := by
  rw [t42]; unfold d_check; simp only [some_cond]
theorem tab0_ok : TabOk Tryd.prog tab0 where
  ng := ng_of (by kernel_rfl)
  ext := fun g e us m v m' h he F w0 ρ w xs hm ha => by
    have h : (bif Nat.beq g 158 then some addX else none) = some e := h
    cases hb : Nat.beq g 158 with
    | false => rw [hb] at h; cases h
    | true =>
      rw [hb] at h; cases h
      obtain rfl := Nat.eq_of_beq_eq_true hb
      exact addX_ok Tryd.func158 (by kernel_rfl) (by kernel_rfl) (by kernel_rfl) (by kernel_rfl) he hm ha
  sum := fun g e us m v m' h => by cases h
theorem mixD : Tryd.prog.follows .mixedOrders = true := by kernel_rfl
theorem tab1_ok : TabOk Tryd.prog tab1 := tab0_ok.add (pure_ok tab0_ok mixD (N := 3000) (D := 3) (n := 3000) ⟨Tryd.f83, _, Tryd.func83, rfl⟩ rfl fun tt nn a => s83 a.1 a.2.1 a.2.2.1 tt nn)
theorem tab2_ok : TabOk Tryd.prog tab2 := tab1_ok.add (pure_ok tab0_ok mixD (N := 3000) (D := 3) (n := 3000) ⟨Tryd.f24, _, Tryd.func24, rfl⟩ rfl fun tt nn a => s24 a.1.1 a.1.2.1 a.1.2.2.1 a.1.2.2.2.1 tt nn)
theorem tab3_ok : TabOk Tryd.prog tab3 := tab2_ok.add (pure_ok tab2_ok mixD (N := 3000) (D := 3) (n := 3000) ⟨Tryd.f42, _, Tryd.func42, rfl⟩ rfl fun tt nn a => s42 a.1.1 a.1.2.1 a.1.2.2.1 a.1.2.2.2.1 tt nn)
theorem tab4_ok : TabOk Tryd.prog tab4 := tab3_ok.add (pure_ok tab3_ok mixD (N := 20000) (D := 6) (n := 60000) ⟨Tryd.f14, _, Tryd.func14, rfl⟩ rfl fun tt nn a => t14 tt nn)
theorem nobody_ok : SumOk Tryd.prog 1 7 (pureE [(0, nameVs)] (.cons (.agg (.cons TI (.cons TI (.cons TI (.cons TI .nil))))) (.cons (.agg (.cons TI (.cons TI (.cons TI (.cons TI (.cons (.i .u32) .nil)))))) (.cons TI .nil))) .b (fun _ => true)) :=
  pure_ok tab4_ok mixD (N := 3000) (D := 3) (n := 3000) ⟨Tryd.f7, _, Tryd.func7, rfl⟩ rfl fun tt nn x => f7_true x.1.1 x.1.2.1 x.1.2.2.1 x.1.2.2.2.1 x.2.1.1 x.2.1.2.1 x.2.1.2.2.1 x.2.1.2.2.2.1 x.2.1.2.2.2.2.1 x.2.2.1 tt nn
end
end Go.CE
