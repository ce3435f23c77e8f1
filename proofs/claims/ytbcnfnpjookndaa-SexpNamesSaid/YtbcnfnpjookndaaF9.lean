-- Turned by fprint.py from a print of the kit's print.sh: named by the function, and with what the walk wanted besides.
import Derived.Test.YtbcnfnpjookndaaK
namespace Go.Proofs.Ytbcnfnpjookndaa.PP
open Go.RowKit Go.Proofs.YtbcnfnpjookndaaW.PrintWords Go.Proofs.YtbcnfnpjookndaaW.PrintLast Go.Proofs.YtbcnfnpjookndaaW.PrintMore
attribute [local go_sem] max2_int min2_int max_two min_two max_three min_three max_four min_four   -- for this text's walks alone
set_option linter.unusedVariables false
set_option linter.unusedSimpArgs false

/-! ### quitrentref35_Named: function 9 -/
def quitrentref35_Named.l0 : Nat → Int → ByteArray → Option (ByteArray × Bool)
  | 0, _, _ => none
  | k + 1, x0, x4 => if x0 > 0 then (if (Int.tmod x0 32) = 0 then (some ((⟨#[]⟩ : ByteArray), false)) else (if (x4.size : Int) = 6 then (some ((⟨#[]⟩ : ByteArray), false)) else (if 0 ≤ (wrap64 ((Int.tmod x0 32) - 1)) then (if (wrap64 ((Int.tmod x0 32) - 1)) ≤ (Int.tmod x0 32) then (if (Int.tmod x0 32) ≤ 31 then (if ((⟨#[97, 98, 99, 100, 101, 102, 103, 104, 105, 106, 107, 108, 109, 110, 111, 112, 113, 114, 115, 116, 117, 118, 119, 120, 121, 122, 43, 45, 42, 60, 61]⟩ : ByteArray).extract ((wrap64 ((Int.tmod x0 32) - 1)) : Int).toNat ((Int.tmod x0 32) : Int).toNat).size + x4.size ≤ 9223372036854775807 then (quitrentref35_Named.l0 k (wrap64 (Int.tdiv x0 32)) (((⟨#[97, 98, 99, 100, 101, 102, 103, 104, 105, 106, 107, 108, 109, 110, 111, 112, 113, 114, 115, 116, 117, 118, 119, 120, 121, 122, 43, 45, 42, 60, 61]⟩ : ByteArray).extract ((wrap64 ((Int.tmod x0 32) - 1)) : Int).toNat ((Int.tmod x0 32) : Int).toNat) ++ x4)) else (none)) else (none)) else (none)) else (none)))) else (some (x4, (x4.toList != ([] : List UInt8))))
def quitrentref35_Named.f (k : Nat) (a0 : Int) : Option (ByteArray × Bool) := quitrentref35_Named.l0 k a0 (⟨#[]⟩ : ByteArray)
theorem quitrentref35_Named.mono_l : ∀ k, (∀ y0 y1, LeO (quitrentref35_Named.l0 k y0 y1) (quitrentref35_Named.l0 (k + 1) y0 y1))
  | 0 => fun _ _ r h => by simp [quitrentref35_Named.l0] at h
  | k + 1 => by
    have ih0 := quitrentref35_Named.mono_l k
    · intro y0 y1
      unfold quitrentref35_Named.l0
      repeat' first
      | (with_reducible exact ih0 _ _)
      | (with_reducible exact LeO.refl _)
      | (with_reducible exact LeO.none _)
      | (with_reducible refine LeO.ite ?_ ?_)
      | (with_reducible refine LeO.bind ?_ (fun _ => ?_))
      | exact ih0 _ _
      | exact LeO.none _
      | refine LeO.ite ?_ ?_
      | refine LeO.bind ?_ (fun _ => ?_)
theorem quitrentref35_Named.mono : ∀ a0 k, LeO (quitrentref35_Named.f k a0) (quitrentref35_Named.f (k + 1) a0) := by
  intro a0 k
  have ih0 := quitrentref35_Named.mono_l k
  unfold quitrentref35_Named.f
  repeat' first
      | (with_reducible exact ih0 _ _)
      | (with_reducible exact LeO.refl _)
      | (with_reducible exact LeO.none _)
      | (with_reducible refine LeO.ite ?_ ?_)
      | (with_reducible refine LeO.bind ?_ (fun _ => ?_))
      | exact ih0 _ _
      | exact LeO.none _
      | refine LeO.ite ?_ ?_
      | refine LeO.bind ?_ (fun _ => ?_)
set_option maxHeartbeats 8000000 in
set_option maxRecDepth 100000 in
theorem quitrentref35_Named.calls (k : Nat) (a0 : Int) (r1 : ByteArray) (r2 : Bool) (w : World) (h : quitrentref35_Named.f k a0 = some (r1, r2)) :
    Calls Try.prog 9 #[.int .i64 a0] w fun e w' => e = .returned (.tuple #[.string r1, .bool r2]) ∧ Drawn0 w w' := by
  have H : (quitrentref35_Named.l0 k a0 (⟨#[]⟩ : ByteArray)) = some (r1, r2) := h
  clear h
  have H' := Aside0.mk H
  clear H
  go_enter Try.func9, Try.ntmps9
  go_wp2
  go_loopg [0, 4] k (fun kq v0 v4 w' => ∃ (x0_1 : Int) (x4_1 : ByteArray), v0 = .int .i64 x0_1 ∧ v4 = .string x4_1 ∧ Aside0 (quitrentref35_Named.l0 kq x0_1 x4_1 = some (r1, r2)) ∧ Aside0 (kq ≤ k) ∧ Drawn0 w w')
  case atStart => exact ⟨(a0), ((⟨#[]⟩ : ByteArray)), (by first | rfl | (simp; done) | (simp [*]; done)), (by first | rfl | (simp; done) | (simp [*]; done)), H', ⟨Nat.le_refl _⟩, by repeat (first | exact Drawn0.refl _ | apply Drawn0.step)⟩
  case round =>
    clear H'
    obtain ⟨x0_1, x4_1, rfl, rfl, HA, HK1, ⟨m1, rfl⟩⟩ := hrel
    cases gk with
    | zero => exact absurd HA.out (by simp [quitrentref35_Named.l0])
    | succ k1 =>
      have H := HA.out
      clear HA
      simp only [quitrentref35_Named.l0] at H
      by_cases c2 : x0_1 > 0
      · rw [if_pos c2] at H
        have c2b0 : decide (0 < x0_1) = true := decide_eq_true c2
        clear c2
        by_cases c3 : (Int.tmod x0_1 32) = 0
        · rw [if_pos c3] at H
          have c3b0 : ((Int.tmod x0_1 32) == 0) = true := beq_iff_eq.mpr c3
          have c3b1 : ((Int.tmod x0_1 32) != 0) = false := bne_eq_false_iff_eq.mpr c3
          clear c3
          simp only [Option.some.injEq, Prod.mk.injEq] at H
          obtain ⟨rfl, rfl⟩ := H
          go_wp2
          go_ret2
          exact ⟨by first | rfl | (simp; done) | (simp [*]; done), by repeat (first | exact Drawn0.refl _ | apply Drawn0.step)⟩
        · rw [if_neg c3] at H
          have c3b0 : ((Int.tmod x0_1 32) == 0) = false := beq_eq_false_iff_ne.mpr c3
          have c3b1 : ((Int.tmod x0_1 32) != 0) = true := bne_iff_ne.mpr c3
          by_cases c4 : (x4_1.size : Int) = 6
          · rw [if_pos c4] at H
            have c4b0 : ((x4_1.size : Int) == 6) = true := beq_iff_eq.mpr c4
            have c4b1 : ((x4_1.size : Int) != 6) = false := bne_eq_false_iff_eq.mpr c4
            clear c4
            simp only [Option.some.injEq, Prod.mk.injEq] at H
            obtain ⟨rfl, rfl⟩ := H
            go_wp2
            go_ret2
            exact ⟨by first | rfl | (simp; done) | (simp [*]; done), by repeat (first | exact Drawn0.refl _ | apply Drawn0.step)⟩
          · rw [if_neg c4] at H
            have c4b0 : ((x4_1.size : Int) == 6) = false := beq_eq_false_iff_ne.mpr c4
            have c4b1 : ((x4_1.size : Int) != 6) = true := bne_iff_ne.mpr c4
            obtain ⟨ji5, hji5⟩ : ∃ j_ : Int, (wrap64 ((Int.tmod x0_1 32) - 1)) = j_ := ⟨_, rfl⟩
            replace H : (if 0 ≤ (ji5) then (if (ji5) ≤ (Int.tmod x0_1 32) then (if (Int.tmod x0_1 32) ≤ 31 then (if ((⟨#[97, 98, 99, 100, 101, 102, 103, 104, 105, 106, 107, 108, 109, 110, 111, 112, 113, 114, 115, 116, 117, 118, 119, 120, 121, 122, 43, 45, 42, 60, 61]⟩ : ByteArray).extract ((ji5) : Int).toNat ((Int.tmod x0_1 32) : Int).toNat).size + x4_1.size ≤ 9223372036854775807 then (quitrentref35_Named.l0 k1 (wrap64 (Int.tdiv x0_1 32)) (((⟨#[97, 98, 99, 100, 101, 102, 103, 104, 105, 106, 107, 108, 109, 110, 111, 112, 113, 114, 115, 116, 117, 118, 119, 120, 121, 122, 43, 45, 42, 60, 61]⟩ : ByteArray).extract ((ji5) : Int).toNat ((Int.tmod x0_1 32) : Int).toNat) ++ x4_1)) else (none)) else (none)) else (none)) else (none)) = some (r1, r2) := by first | (rw [hji5] at H; exact H) | (simp only [hji5] at H ⊢; exact H)
            have hji5w : (IntKind.i64.wrap ((Int.tmod x0_1 32) - 1)) = ji5 := (i64_w _).trans hji5
            by_cases c6 : 0 ≤ (ji5)
            · rw [if_pos c6] at H
              have c6b0 := eq_true c6
              have c6b1 : decide (0 ≤ (ji5)) = true := decide_eq_true c6
              clear c6
              by_cases c7 : (ji5) ≤ (Int.tmod x0_1 32)
              · rw [if_pos c7] at H
                have c7b0 := eq_true c7
                have c7b1 : decide ((ji5) ≤ (Int.tmod x0_1 32)) = true := decide_eq_true c7
                clear c7
                by_cases c8 : (Int.tmod x0_1 32) ≤ 31
                · rw [if_pos c8] at H
                  have c8b0 := eq_true c8
                  have c8b1 : decide ((Int.tmod x0_1 32) ≤ 31) = true := decide_eq_true c8
                  clear c8
                  by_cases c9 : ((⟨#[97, 98, 99, 100, 101, 102, 103, 104, 105, 106, 107, 108, 109, 110, 111, 112, 113, 114, 115, 116, 117, 118, 119, 120, 121, 122, 43, 45, 42, 60, 61]⟩ : ByteArray).extract ((ji5) : Int).toNat ((Int.tmod x0_1 32) : Int).toNat).size + x4_1.size ≤ 9223372036854775807
                  · rw [if_pos c9] at H
                    have c9b0 := eq_true c9
                    have c9b1 : decide (((⟨#[97, 98, 99, 100, 101, 102, 103, 104, 105, 106, 107, 108, 109, 110, 111, 112, 113, 114, 115, 116, 117, 118, 119, 120, 121, 122, 43, 45, 42, 60, 61]⟩ : ByteArray).extract ((ji5) : Int).toNat ((Int.tmod x0_1 32) : Int).toNat).size + x4_1.size ≤ 9223372036854775807) = true := decide_eq_true c9
                    try have c9b2 : (9223372036854775807 < ((⟨#[97, 98, 99, 100, 101, 102, 103, 104, 105, 106, 107, 108, 109, 110, 111, 112, 113, 114, 115, 116, 117, 118, 119, 120, 121, 122, 43, 45, 42, 60, 61]⟩ : ByteArray).extract ((ji5) : Int).toNat ((Int.tmod x0_1 32) : Int).toNat).size + x4_1.size) = False := eq_false (Nat.not_lt.2 c9)
                    have H' := Aside0.mk H
                    clear H
                    go_wp2
                    go_roundg k1
                    case measure => have := HK1.out; omega
                    case rel => exact ⟨(wrap64 (Int.tdiv x0_1 32)), (((⟨#[97, 98, 99, 100, 101, 102, 103, 104, 105, 106, 107, 108, 109, 110, 111, 112, 113, 114, 115, 116, 117, 118, 119, 120, 121, 122, 43, 45, 42, 60, 61]⟩ : ByteArray).extract ((ji5) : Int).toNat ((Int.tmod x0_1 32) : Int).toNat) ++ x4_1), (by first | rfl | (simp; done) | (simp [*]; done)), (by first | rfl | (simp; done) | (simp only [← hji5] <;> (first | rfl | simp)) | (simp [*]; done)), H', ⟨by have := HK1.out; omega⟩, by repeat (first | exact Drawn0.refl _ | apply Drawn0.step)⟩
                  · rw [if_neg c9] at H
                    exact absurd H (by simp)
                · rw [if_neg c8] at H
                  exact absurd H (by simp)
              · rw [if_neg c7] at H
                exact absurd H (by simp)
            · rw [if_neg c6] at H
              exact absurd H (by simp)
      · rw [if_neg c2] at H
        have c2b0 : decide (0 < x0_1) = false := decide_eq_false c2
        clear c2
        simp only [Option.some.injEq, Prod.mk.injEq] at H
        obtain ⟨rfl, rfl⟩ := H
        go_wp2
        go_ret2
        exact ⟨by first | rfl | (simp; cases x4_1.toList <;> rfl) | (simp; done) | (simp [*]; done), by repeat (first | exact Drawn0.refl _ | apply Drawn0.step)⟩

end Go.Proofs.Ytbcnfnpjookndaa.PP
