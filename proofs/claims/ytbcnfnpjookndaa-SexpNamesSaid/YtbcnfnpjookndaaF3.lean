-- Turned by fprint.py from a print of the kit's print.sh: named by the function, and with what the walk wanted besides.
import Derived.Test.YtbcnfnpjookndaaK
import Derived.Test.YtbcnfnpjookndaaF5
import Derived.Test.YtbcnfnpjookndaaF6
import Derived.Test.YtbcnfnpjookndaaF7
import Derived.Test.YtbcnfnpjookndaaF8
import Derived.Test.YtbcnfnpjookndaaF9
import Derived.Test.YtbcnfnpjookndaaSB
namespace Go.Proofs.Ytbcnfnpjookndaa.PP
open Go.RowKit Go.Proofs.YtbcnfnpjookndaaW.PrintWords Go.Proofs.YtbcnfnpjookndaaW.PrintLast Go.Proofs.YtbcnfnpjookndaaW.PrintMore
attribute [local go_sem] max2_int min2_int max_two min_two max_three min_three max_four min_four   -- for this text's walks alone
set_option linter.unusedVariables false
set_option linter.unusedSimpArgs false

/-! ### quitrentlaw35_SexpNames: function 3 -/
def quitrentlaw35_SexpNames.j0 : Nat → Int → Bool → Option (Bool)
  | 0, _, _ => none
  | k + 1, x1, x39 => if x39 = true then (some false) else ((sexp_Named.f k x1).bind fun bt140 => ((quitrentref35_Named.f k (wrap64 (x1))).bind fun bt142 => ((quitrentlaw35_begun.f).bind fun t144 => (if t144 = true then (if (bt140.2 == bt142.2) = true then (if bt140.1.toList = bt142.1.toList then (some true) else (if bt142.2 = true then (some false) else (some (bt140.1.toList == ([] : List UInt8))))) else (some false)) else (some false)))))
def quitrentlaw35_SexpNames.f (k : Nat) (a0 : ByteArray) (a1 : Int) : Option (Bool) := (sexp_Name.f k a0).bind fun bt136 => ((quitrentref35_IsName.f k a0).bind fun t138 => (if (bt136.2 != t138) = true then (quitrentlaw35_SexpNames.j0 k a1 true) else (if t138 = true then ((quitrentref35_Name.f k a0).bind fun t139 => (if (wrap64 (bt136.1)) = t139 then (quitrentlaw35_SexpNames.j0 k a1 false) else (quitrentlaw35_SexpNames.j0 k a1 true))) else (quitrentlaw35_SexpNames.j0 k a1 (bt136.1 != 0)))))
theorem quitrentlaw35_SexpNames.mono_l : ∀ k, (∀ y0 y1, LeO (quitrentlaw35_SexpNames.j0 k y0 y1) (quitrentlaw35_SexpNames.j0 (k + 1) y0 y1))
  | 0 => fun _ _ r h => by simp [quitrentlaw35_SexpNames.j0] at h
  | k + 1 => by
    have ih0 := quitrentlaw35_SexpNames.mono_l k
    · intro y0 y1
      unfold quitrentlaw35_SexpNames.j0
      repeat' first
      | (with_reducible exact ih0 _ _)
      | (with_reducible exact quitrentref35_IsName.mono _ _)
      | (with_reducible exact quitrentref35_Name.mono _ _)
      | (with_reducible exact quitrentref35_Named.mono _ _)
      | (with_reducible exact sexp_Name.mono _ _)
      | (with_reducible exact sexp_Named.mono _ _)
      | (with_reducible exact LeO.refl _)
      | (with_reducible exact LeO.none _)
      | (with_reducible refine LeO.ite ?_ ?_)
      | (with_reducible refine LeO.bind ?_ (fun _ => ?_))
      | exact ih0 _ _
      | exact quitrentref35_IsName.mono _ _
      | exact quitrentref35_Name.mono _ _
      | exact quitrentref35_Named.mono _ _
      | exact sexp_Name.mono _ _
      | exact sexp_Named.mono _ _
      | exact LeO.none _
      | refine LeO.ite ?_ ?_
      | refine LeO.bind ?_ (fun _ => ?_)
theorem quitrentlaw35_SexpNames.mono : ∀ a0 a1 k, LeO (quitrentlaw35_SexpNames.f k a0 a1) (quitrentlaw35_SexpNames.f (k + 1) a0 a1) := by
  intro a0 a1 k
  have ih0 := quitrentlaw35_SexpNames.mono_l k
  unfold quitrentlaw35_SexpNames.f
  repeat' first
      | (with_reducible exact ih0 _ _)
      | (with_reducible exact quitrentref35_IsName.mono _ _)
      | (with_reducible exact quitrentref35_Name.mono _ _)
      | (with_reducible exact quitrentref35_Named.mono _ _)
      | (with_reducible exact sexp_Name.mono _ _)
      | (with_reducible exact sexp_Named.mono _ _)
      | (with_reducible exact LeO.refl _)
      | (with_reducible exact LeO.none _)
      | (with_reducible refine LeO.ite ?_ ?_)
      | (with_reducible refine LeO.bind ?_ (fun _ => ?_))
      | exact ih0 _ _
      | exact quitrentref35_IsName.mono _ _
      | exact quitrentref35_Name.mono _ _
      | exact quitrentref35_Named.mono _ _
      | exact sexp_Name.mono _ _
      | exact sexp_Named.mono _ _
      | exact LeO.none _
      | refine LeO.ite ?_ ?_
      | refine LeO.bind ?_ (fun _ => ?_)
set_option maxHeartbeats 8000000 in
set_option maxRecDepth 100000 in
theorem quitrentlaw35_SexpNames.calls (k : Nat) (a0 : ByteArray) (a1 : Int) (r : Bool) (w : World) (h : quitrentlaw35_SexpNames.f k a0 a1 = some r) :
    Calls Try.prog 3 #[.string a0, .int .u32 a1] w fun e w' => e = .returned (.bool r) ∧ Below w.heap.size w w' := by
  have HB := Aside0.mk (Below.refl w.heap.size w)
  have H : ((sexp_Name.f k a0).bind fun bt136 => ((quitrentref35_IsName.f k a0).bind fun t138 => (if (bt136.2 != t138) = true then (quitrentlaw35_SexpNames.j0 k a1 true) else (if t138 = true then ((quitrentref35_Name.f k a0).bind fun t139 => (if (wrap64 (bt136.1)) = t139 then (quitrentlaw35_SexpNames.j0 k a1 false) else (quitrentlaw35_SexpNames.j0 k a1 true))) else (quitrentlaw35_SexpNames.j0 k a1 (bt136.1 != 0)))))) = some r := h
  clear h
  replace H := Option.bind_eq_some_iff.mp H
  obtain ⟨⟨t136, t137⟩, A30, H⟩ := H
  replace H : ((quitrentref35_IsName.f k a0).bind fun t138 => (if (t137 != t138) = true then (quitrentlaw35_SexpNames.j0 k a1 true) else (if t138 = true then ((quitrentref35_Name.f k a0).bind fun t139 => (if (wrap64 (t136)) = t139 then (quitrentlaw35_SexpNames.j0 k a1 false) else (quitrentlaw35_SexpNames.j0 k a1 true))) else (quitrentlaw35_SexpNames.j0 k a1 (t136 != 0))))) = some r := H
  have A3 := Aside0.mk A30
  clear A30
  replace H := Option.bind_eq_some_iff.mp H
  obtain ⟨t138, A40, H⟩ := H
  replace H : (if (t137 != t138) = true then (quitrentlaw35_SexpNames.j0 k a1 true) else (if t138 = true then ((quitrentref35_Name.f k a0).bind fun t139 => (if (wrap64 (t136)) = t139 then (quitrentlaw35_SexpNames.j0 k a1 false) else (quitrentlaw35_SexpNames.j0 k a1 true))) else (quitrentlaw35_SexpNames.j0 k a1 (t136 != 0)))) = some r := H
  have A4 := Aside0.mk A40
  clear A40
  have HC5 := Aside0.mk H
  clear H
  go_enter Try.func3, Try.ntmps3
  go_upto_region 3 with (first | ((with_reducible refine gate_callee (f := 5) rfl ?_); refine goesL_ (some 14) rfl rfl Try.func5 (by kernel_rfl) rfl #[.string a0] rfl (by (try simp only [List.map_toArray, List.map_cons, List.map_nil]); first | done | rfl | (simp only [List.length_drop, List.length_take]; rfl)) ?_; (with_reducible refine (sexp_Name.calls k a0 t136 t137 _ A3.out).mono ?_); rintro e w6 ⟨rfl, hb⟩; refine ⟨_, rfl, ?_⟩; have n0_ := Aside0.mk (below_step (by repeat (first | (with_reducible first | exact HB.out | apply below_alloc | apply pw_below_drewN | apply below_drew1) | exact HB.out)) hb); clear HB; have HB := n0_; clear n0_; (try clear hb); (try clear hb2); (try clear hk); (try clear hi)) | ((with_reducible refine gate_callee (f := 6) rfl ?_); refine goesL_ (some 18) rfl rfl Try.func6 (by kernel_rfl) rfl #[.string a0] rfl (by (try simp only [List.map_toArray, List.map_cons, List.map_nil]); first | done | rfl | (simp only [List.length_drop, List.length_take]; rfl)) ?_; (with_reducible refine (quitrentref35_IsName.calls k a0 t138 _ A4.out).mono ?_); rintro e w' ⟨rfl, ⟨nd, rfl⟩⟩; refine ⟨_, rfl, ?_⟩))
  (try simp only [Act.put, List.setIfInBounds_toArray, List.set_cons_zero, List.set_cons_succ])
  go_cut [39] (fun v39 wc => ∃ (kq : Nat) (x39_4 : Bool), v39 = .bool x39_4 ∧ Aside0 (quitrentlaw35_SexpNames.j0 kq a1 x39_4 = some r) ∧ Aside0 (kq ≤ k) ∧ Aside0 (Below w.heap.size w wc))
  case first =>
    have H := HC5.out
    clear HC5
    by_cases c7 : (t137 != t138) = true
    · rw [if_pos c7] at H
      have c7b0 : (t137 != t138) = true := c7
      (try (have c7b1 : decide (t137 = t138) = false := by simpa using c7))
      (try (have c7b2 : (t137 == t138) = false := by simpa using c7))
      (try (have c7b3 : ¬ (t137 = t138) := by simpa using c7))
      clear c7
      (first | rw [c7b0] | (simp only [i64_w, i32_w]; rw [c7b0]) | skip)
      have H' := Aside0.mk H
      clear H
      go_wp2
      go_meet
      case rel => exact ⟨_, (true), (by first | rfl | (simp; done) | (simp [*]; done)), H', ⟨by first | omega | exact Nat.le_refl _⟩, ⟨by repeat (first | (with_reducible first | exact HB.out | apply below_alloc | apply pw_below_drewN | apply below_drew1) | exact HB.out)⟩⟩
    · rw [if_neg c7] at H
      have c7b0 : (t137 != t138) = false := by simpa using c7
      (try (have c7b1 : decide (t137 = t138) = true := by simpa using c7))
      (try (have c7b2 : (t137 == t138) = true := by simpa using c7))
      clear c7
      (first | rw [c7b0] | (simp only [i64_w, i32_w]; rw [c7b0]) | skip)
      by_cases c8 : t138 = true
      · subst c8
        have H1 : ((quitrentref35_Name.f k a0).bind fun t139 => (if (wrap64 (t136)) = t139 then (quitrentlaw35_SexpNames.j0 k a1 false) else (quitrentlaw35_SexpNames.j0 k a1 true))) = some r := by rw [if_pos rfl] at H; exact H
        clear H
        have H := H1
        clear H1
        replace H := Option.bind_eq_some_iff.mp H
        obtain ⟨t139, A90, H⟩ := H
        replace H : (if (wrap64 (t136)) = t139 then (quitrentlaw35_SexpNames.j0 k a1 false) else (quitrentlaw35_SexpNames.j0 k a1 true)) = some r := H
        have A9 := Aside0.mk A90
        clear A90
        by_cases c10 : (wrap64 (t136)) = t139
        · rw [if_pos c10] at H
          have c10b0 : ((wrap64 (t136)) == t139) = true := beq_iff_eq.mpr c10
          have c10b1 : ((wrap64 (t136)) != t139) = false := bne_eq_false_iff_eq.mpr c10
          clear c10
          have H' := Aside0.mk H
          clear H
          go_wp2_with (first | (go_at_call 7; (with_reducible refine (quitrentref35_Name.calls k a0 t139 _ A9.out).mono ?_); rintro e w' ⟨rfl, ⟨nd, rfl⟩⟩))
          go_meet
          case rel => exact ⟨_, (false), (by first | rfl | (simp; done) | (simp [*]; done)), H', ⟨by first | omega | exact Nat.le_refl _⟩, ⟨by repeat (first | (with_reducible first | exact HB.out | apply below_alloc | apply pw_below_drewN | apply below_drew1) | exact HB.out)⟩⟩
        · rw [if_neg c10] at H
          have c10b0 : ((wrap64 (t136)) == t139) = false := beq_eq_false_iff_ne.mpr c10
          have c10b1 : ((wrap64 (t136)) != t139) = true := bne_iff_ne.mpr c10
          have H' := Aside0.mk H
          clear H
          go_wp2_with (first | (go_at_call 7; (with_reducible refine (quitrentref35_Name.calls k a0 t139 _ A9.out).mono ?_); rintro e w' ⟨rfl, ⟨nd, rfl⟩⟩))
          go_meet
          case rel => exact ⟨_, (true), (by first | rfl | (simp; done) | (simp [*]; done)), H', ⟨by first | omega | exact Nat.le_refl _⟩, ⟨by repeat (first | (with_reducible first | exact HB.out | apply below_alloc | apply pw_below_drewN | apply below_drew1) | exact HB.out)⟩⟩
      · replace c8 := Bool.eq_false_iff.mpr c8
        subst c8
        have H1 : (quitrentlaw35_SexpNames.j0 k a1 (t136 != 0)) = some r := by rw [if_neg (show ¬ (false = true) by decide)] at H; exact H
        clear H
        have H := H1
        clear H1
        have H' := Aside0.mk H
        clear H
        go_wp2
        go_meet
        case rel => exact ⟨_, ((t136 != 0)), (by first | rfl | (simp; done) | (simp [*]; done)), H', ⟨by first | omega | exact Nat.le_refl _⟩, ⟨by repeat (first | (with_reducible first | exact HB.out | apply below_alloc | apply pw_below_drewN | apply below_drew1) | exact HB.out)⟩⟩
  case rest =>
    clear HC5
    try clear c1
    try clear p2
    try clear c3
    try clear c5
    try clear c6
    try clear p6
    try clear c7
    try clear c7b0
    try clear c7b1
    try clear c7b2
    try clear c8
    try clear c10
    try clear c10b0
    try clear c10b1
    obtain ⟨kq, x39_4, rfl, HA, HJ4, HB⟩ := hcut
    cases kq with
    | zero => exact absurd HA.out (by simp [quitrentlaw35_SexpNames.j0])
    | succ kj4 =>
      have H := HA.out
      clear HA
      simp only [quitrentlaw35_SexpNames.j0] at H
      by_cases c11 : x39_4 = true
      · subst c11
        have H1 : (some false) = some r := by rw [if_pos rfl] at H; exact H
        clear H
        have H := H1
        clear H1
        obtain rfl := Option.some.inj H
        go_wp2
        go_ret
        exact ⟨by first | rfl | (simp [errW_none, errW_some] <;> rfl) | (simp [*, errW_none, errW_some] <;> rfl), by repeat (first | (with_reducible first | exact HB.out | apply below_alloc | apply pw_below_drewN | apply below_drew1) | exact HB.out)⟩
      · replace c11 := Bool.eq_false_iff.mpr c11
        subst c11
        have H1 : ((sexp_Named.f kj4 a1).bind fun bt140 => ((quitrentref35_Named.f kj4 (wrap64 (a1))).bind fun bt142 => ((quitrentlaw35_begun.f).bind fun t144 => (if t144 = true then (if (bt140.2 == bt142.2) = true then (if bt140.1.toList = bt142.1.toList then (some true) else (if bt142.2 = true then (some false) else (some (bt140.1.toList == ([] : List UInt8))))) else (some false)) else (some false))))) = some r := by rw [if_neg (show ¬ (false = true) by decide)] at H; exact H
        clear H
        have H := H1
        clear H1
        replace H := Option.bind_eq_some_iff.mp H
        obtain ⟨⟨t140, t141⟩, A120, H⟩ := H
        replace H : ((quitrentref35_Named.f kj4 (wrap64 (a1))).bind fun bt142 => ((quitrentlaw35_begun.f).bind fun t144 => (if t144 = true then (if (t141 == bt142.2) = true then (if t140.toList = bt142.1.toList then (some true) else (if bt142.2 = true then (some false) else (some (t140.toList == ([] : List UInt8))))) else (some false)) else (some false)))) = some r := H
        have A12 := Aside0.mk A120
        clear A120
        replace H := Option.bind_eq_some_iff.mp H
        obtain ⟨⟨t142, t143⟩, A130, H⟩ := H
        replace H : ((quitrentlaw35_begun.f).bind fun t144 => (if t144 = true then (if (t141 == t143) = true then (if t140.toList = t142.toList then (some true) else (if t143 = true then (some false) else (some (t140.toList == ([] : List UInt8))))) else (some false)) else (some false))) = some r := H
        have A13 := Aside0.mk A130
        clear A130
        replace H := Option.bind_eq_some_iff.mp H
        obtain ⟨t144, A140, H⟩ := H
        replace H : (if t144 = true then (if (t141 == t143) = true then (if t140.toList = t142.toList then (some true) else (if t143 = true then (some false) else (some (t140.toList == ([] : List UInt8))))) else (some false)) else (some false)) = some r := H
        have A14 := Aside0.mk A140
        clear A140
        by_cases c15 : t144 = true
        · subst c15
          have H1 : (if (t141 == t143) = true then (if t140.toList = t142.toList then (some true) else (if t143 = true then (some false) else (some (t140.toList == ([] : List UInt8))))) else (some false)) = some r := by rw [if_pos rfl] at H; exact H
          clear H
          have H := H1
          clear H1
          by_cases c16 : (t141 == t143) = true
          · rw [if_pos c16] at H
            have c16b0 : (t141 == t143) = true := c16
            (try (have c16b1 : decide (t141 = t143) = true := by simpa using c16))
            (try (have c16b2 : (t141 == t143) = true := by simpa using c16))
            clear c16
            by_cases c17 : t140.toList = t142.toList
            · rw [if_pos c17] at H
              have c17b0 : (t140.toList == t142.toList) = true := beq_iff_eq.mpr c17
              have c17b1 : (t140.toList != t142.toList) = false := bne_eq_false_iff_eq.mpr c17
              clear c17
              obtain rfl := Option.some.inj H
              go_wp2_with (first | ((with_reducible refine gate_callee (f := 8) rfl ?_); refine goesL_ (some 42) rfl rfl Try.func8 (by kernel_rfl) rfl #[.int .u32 a1] rfl (by (try simp only [List.map_toArray, List.map_cons, List.map_nil]); first | done | rfl | (simp only [List.length_drop, List.length_take]; rfl)) ?_; (with_reducible refine (sexp_Named.calls kj4 a1 t140 t141 _ A12.out).mono ?_); rintro e w18 ⟨rfl, hb⟩; refine ⟨_, rfl, ?_⟩; have n0_ := Aside0.mk (below_step (by repeat (first | (with_reducible first | exact HB.out | apply below_alloc | apply pw_below_drewN | apply below_drew1) | exact HB.out)) hb); clear HB; have HB := n0_; clear n0_; (try clear hb); (try clear hb2); (try clear hk); (try clear hi)) | ((with_reducible refine gate_callee (f := 9) rfl ?_); refine goesL_ (some 48) rfl rfl Try.func9 (by kernel_rfl) rfl #[.int .i64 (wrap64 (a1))] rfl (by (try simp only [List.map_toArray, List.map_cons, List.map_nil]); first | done | rfl | (simp only [List.length_drop, List.length_take]; rfl)) ?_; (with_reducible refine (quitrentref35_Named.calls kj4 (wrap64 (a1)) t142 t143 _ A13.out).mono ?_); rintro e w' ⟨rfl, ⟨nd, rfl⟩⟩; refine ⟨_, rfl, ?_⟩) | ((with_reducible refine gate_callee (f := 10) rfl ?_); refine goesL_ (some 51) rfl rfl Try.func10 (by kernel_rfl) rfl #[] rfl (by (try simp only [List.map_toArray, List.map_cons, List.map_nil]); first | done | rfl | (simp only [List.length_drop, List.length_take]; rfl)) ?_; (with_reducible refine (quitrentlaw35_begun.calls  true _ A14.out).mono ?_); rintro e w19 ⟨rfl, hb⟩; refine ⟨_, rfl, ?_⟩; have n0_ := Aside0.mk (below_step (by repeat (first | (with_reducible first | exact HB.out | apply below_alloc | apply pw_below_drewN | apply below_drew1) | exact HB.out)) hb); clear HB; have HB := n0_; clear n0_; (try clear hb); (try clear hb2); (try clear hk); (try clear hi)))
              go_ret
              exact ⟨by first | rfl | (simp [errW_none, errW_some] <;> rfl) | (simp [*, errW_none, errW_some] <;> rfl), by repeat (first | (with_reducible first | exact HB.out | apply below_alloc | apply pw_below_drewN | apply below_drew1) | exact HB.out)⟩
            · rw [if_neg c17] at H
              have c17b0 : (t140.toList == t142.toList) = false := beq_eq_false_iff_ne.mpr c17
              have c17b1 : (t140.toList != t142.toList) = true := bne_iff_ne.mpr c17
              by_cases c20 : t143 = true
              · subst c20
                have H1 : (some false) = some r := by rw [if_pos rfl] at H; exact H
                clear H
                have H := H1
                clear H1
                obtain rfl := Option.some.inj H
                go_wp2_with (first | ((with_reducible refine gate_callee (f := 8) rfl ?_); refine goesL_ (some 42) rfl rfl Try.func8 (by kernel_rfl) rfl #[.int .u32 a1] rfl (by (try simp only [List.map_toArray, List.map_cons, List.map_nil]); first | done | rfl | (simp only [List.length_drop, List.length_take]; rfl)) ?_; (with_reducible refine (sexp_Named.calls kj4 a1 t140 t141 _ A12.out).mono ?_); rintro e w21 ⟨rfl, hb⟩; refine ⟨_, rfl, ?_⟩; have n0_ := Aside0.mk (below_step (by repeat (first | (with_reducible first | exact HB.out | apply below_alloc | apply pw_below_drewN | apply below_drew1) | exact HB.out)) hb); clear HB; have HB := n0_; clear n0_; (try clear hb); (try clear hb2); (try clear hk); (try clear hi)) | ((with_reducible refine gate_callee (f := 9) rfl ?_); refine goesL_ (some 48) rfl rfl Try.func9 (by kernel_rfl) rfl #[.int .i64 (wrap64 (a1))] rfl (by (try simp only [List.map_toArray, List.map_cons, List.map_nil]); first | done | rfl | (simp only [List.length_drop, List.length_take]; rfl)) ?_; (with_reducible refine (quitrentref35_Named.calls kj4 (wrap64 (a1)) t142 true _ A13.out).mono ?_); rintro e w' ⟨rfl, ⟨nd, rfl⟩⟩; refine ⟨_, rfl, ?_⟩) | ((with_reducible refine gate_callee (f := 10) rfl ?_); refine goesL_ (some 51) rfl rfl Try.func10 (by kernel_rfl) rfl #[] rfl (by (try simp only [List.map_toArray, List.map_cons, List.map_nil]); first | done | rfl | (simp only [List.length_drop, List.length_take]; rfl)) ?_; (with_reducible refine (quitrentlaw35_begun.calls  true _ A14.out).mono ?_); rintro e w22 ⟨rfl, hb⟩; refine ⟨_, rfl, ?_⟩; have n0_ := Aside0.mk (below_step (by repeat (first | (with_reducible first | exact HB.out | apply below_alloc | apply pw_below_drewN | apply below_drew1) | exact HB.out)) hb); clear HB; have HB := n0_; clear n0_; (try clear hb); (try clear hb2); (try clear hk); (try clear hi)))
                go_ret
                exact ⟨by first | rfl | (simp [errW_none, errW_some] <;> rfl) | (simp [*, errW_none, errW_some] <;> rfl), by repeat (first | (with_reducible first | exact HB.out | apply below_alloc | apply pw_below_drewN | apply below_drew1) | exact HB.out)⟩
              · replace c20 := Bool.eq_false_iff.mpr c20
                subst c20
                have H1 : (some (t140.toList == ([] : List UInt8))) = some r := by rw [if_neg (show ¬ (false = true) by decide)] at H; exact H
                clear H
                have H := H1
                clear H1
                obtain rfl := Option.some.inj H
                go_wp2_with (first | ((with_reducible refine gate_callee (f := 8) rfl ?_); refine goesL_ (some 42) rfl rfl Try.func8 (by kernel_rfl) rfl #[.int .u32 a1] rfl (by (try simp only [List.map_toArray, List.map_cons, List.map_nil]); first | done | rfl | (simp only [List.length_drop, List.length_take]; rfl)) ?_; (with_reducible refine (sexp_Named.calls kj4 a1 t140 t141 _ A12.out).mono ?_); rintro e w23 ⟨rfl, hb⟩; refine ⟨_, rfl, ?_⟩; have n0_ := Aside0.mk (below_step (by repeat (first | (with_reducible first | exact HB.out | apply below_alloc | apply pw_below_drewN | apply below_drew1) | exact HB.out)) hb); clear HB; have HB := n0_; clear n0_; (try clear hb); (try clear hb2); (try clear hk); (try clear hi)) | ((with_reducible refine gate_callee (f := 9) rfl ?_); refine goesL_ (some 48) rfl rfl Try.func9 (by kernel_rfl) rfl #[.int .i64 (wrap64 (a1))] rfl (by (try simp only [List.map_toArray, List.map_cons, List.map_nil]); first | done | rfl | (simp only [List.length_drop, List.length_take]; rfl)) ?_; (with_reducible refine (quitrentref35_Named.calls kj4 (wrap64 (a1)) t142 false _ A13.out).mono ?_); rintro e w' ⟨rfl, ⟨nd, rfl⟩⟩; refine ⟨_, rfl, ?_⟩) | ((with_reducible refine gate_callee (f := 10) rfl ?_); refine goesL_ (some 51) rfl rfl Try.func10 (by kernel_rfl) rfl #[] rfl (by (try simp only [List.map_toArray, List.map_cons, List.map_nil]); first | done | rfl | (simp only [List.length_drop, List.length_take]; rfl)) ?_; (with_reducible refine (quitrentlaw35_begun.calls  true _ A14.out).mono ?_); rintro e w24 ⟨rfl, hb⟩; refine ⟨_, rfl, ?_⟩; have n0_ := Aside0.mk (below_step (by repeat (first | (with_reducible first | exact HB.out | apply below_alloc | apply pw_below_drewN | apply below_drew1) | exact HB.out)) hb); clear HB; have HB := n0_; clear n0_; (try clear hb); (try clear hb2); (try clear hk); (try clear hi)))
                go_ret
                exact ⟨by first | rfl | (simp [errW_none, errW_some] <;> rfl) | (simp [*, errW_none, errW_some] <;> rfl), by repeat (first | (with_reducible first | exact HB.out | apply below_alloc | apply pw_below_drewN | apply below_drew1) | exact HB.out)⟩
          · rw [if_neg c16] at H
            have c16b0 : (t141 == t143) = false := by simpa using c16
            (try (have c16b1 : decide (t141 = t143) = false := by simpa using c16))
            (try (have c16b2 : (t141 == t143) = false := by simpa using c16))
            (try (have c16b3 : ¬ (t141 = t143) := by simpa using c16))
            clear c16
            obtain rfl := Option.some.inj H
            go_wp2_with (first | ((with_reducible refine gate_callee (f := 8) rfl ?_); refine goesL_ (some 42) rfl rfl Try.func8 (by kernel_rfl) rfl #[.int .u32 a1] rfl (by (try simp only [List.map_toArray, List.map_cons, List.map_nil]); first | done | rfl | (simp only [List.length_drop, List.length_take]; rfl)) ?_; (with_reducible refine (sexp_Named.calls kj4 a1 t140 t141 _ A12.out).mono ?_); rintro e w25 ⟨rfl, hb⟩; refine ⟨_, rfl, ?_⟩; have n0_ := Aside0.mk (below_step (by repeat (first | (with_reducible first | exact HB.out | apply below_alloc | apply pw_below_drewN | apply below_drew1) | exact HB.out)) hb); clear HB; have HB := n0_; clear n0_; (try clear hb); (try clear hb2); (try clear hk); (try clear hi)) | ((with_reducible refine gate_callee (f := 9) rfl ?_); refine goesL_ (some 48) rfl rfl Try.func9 (by kernel_rfl) rfl #[.int .i64 (wrap64 (a1))] rfl (by (try simp only [List.map_toArray, List.map_cons, List.map_nil]); first | done | rfl | (simp only [List.length_drop, List.length_take]; rfl)) ?_; (with_reducible refine (quitrentref35_Named.calls kj4 (wrap64 (a1)) t142 t143 _ A13.out).mono ?_); rintro e w' ⟨rfl, ⟨nd, rfl⟩⟩; refine ⟨_, rfl, ?_⟩) | ((with_reducible refine gate_callee (f := 10) rfl ?_); refine goesL_ (some 51) rfl rfl Try.func10 (by kernel_rfl) rfl #[] rfl (by (try simp only [List.map_toArray, List.map_cons, List.map_nil]); first | done | rfl | (simp only [List.length_drop, List.length_take]; rfl)) ?_; (with_reducible refine (quitrentlaw35_begun.calls  true _ A14.out).mono ?_); rintro e w26 ⟨rfl, hb⟩; refine ⟨_, rfl, ?_⟩; have n0_ := Aside0.mk (below_step (by repeat (first | (with_reducible first | exact HB.out | apply below_alloc | apply pw_below_drewN | apply below_drew1) | exact HB.out)) hb); clear HB; have HB := n0_; clear n0_; (try clear hb); (try clear hb2); (try clear hk); (try clear hi)))
            go_ret
            exact ⟨by first | rfl | (simp [errW_none, errW_some] <;> rfl) | (simp [*, errW_none, errW_some] <;> rfl), by repeat (first | (with_reducible first | exact HB.out | apply below_alloc | apply pw_below_drewN | apply below_drew1) | exact HB.out)⟩
        · replace c15 := Bool.eq_false_iff.mpr c15
          subst c15
          have H1 : (some false) = some r := by rw [if_neg (show ¬ (false = true) by decide)] at H; exact H
          clear H
          have H := H1
          clear H1
          obtain rfl := Option.some.inj H
          go_wp2_with (first | ((with_reducible refine gate_callee (f := 8) rfl ?_); refine goesL_ (some 42) rfl rfl Try.func8 (by kernel_rfl) rfl #[.int .u32 a1] rfl (by (try simp only [List.map_toArray, List.map_cons, List.map_nil]); first | done | rfl | (simp only [List.length_drop, List.length_take]; rfl)) ?_; (with_reducible refine (sexp_Named.calls kj4 a1 t140 t141 _ A12.out).mono ?_); rintro e w27 ⟨rfl, hb⟩; refine ⟨_, rfl, ?_⟩; have n0_ := Aside0.mk (below_step (by repeat (first | (with_reducible first | exact HB.out | apply below_alloc | apply pw_below_drewN | apply below_drew1) | exact HB.out)) hb); clear HB; have HB := n0_; clear n0_; (try clear hb); (try clear hb2); (try clear hk); (try clear hi)) | ((with_reducible refine gate_callee (f := 9) rfl ?_); refine goesL_ (some 48) rfl rfl Try.func9 (by kernel_rfl) rfl #[.int .i64 (wrap64 (a1))] rfl (by (try simp only [List.map_toArray, List.map_cons, List.map_nil]); first | done | rfl | (simp only [List.length_drop, List.length_take]; rfl)) ?_; (with_reducible refine (quitrentref35_Named.calls kj4 (wrap64 (a1)) t142 t143 _ A13.out).mono ?_); rintro e w' ⟨rfl, ⟨nd, rfl⟩⟩; refine ⟨_, rfl, ?_⟩) | ((with_reducible refine gate_callee (f := 10) rfl ?_); refine goesL_ (some 51) rfl rfl Try.func10 (by kernel_rfl) rfl #[] rfl (by (try simp only [List.map_toArray, List.map_cons, List.map_nil]); first | done | rfl | (simp only [List.length_drop, List.length_take]; rfl)) ?_; (with_reducible refine (quitrentlaw35_begun.calls  false _ A14.out).mono ?_); rintro e w28 ⟨rfl, hb⟩; refine ⟨_, rfl, ?_⟩; have n0_ := Aside0.mk (below_step (by repeat (first | (with_reducible first | exact HB.out | apply below_alloc | apply pw_below_drewN | apply below_drew1) | exact HB.out)) hb); clear HB; have HB := n0_; clear n0_; (try clear hb); (try clear hb2); (try clear hk); (try clear hi)))
          go_ret
          exact ⟨by first | rfl | (simp [errW_none, errW_some] <;> rfl) | (simp [*, errW_none, errW_some] <;> rfl), by repeat (first | (with_reducible first | exact HB.out | apply below_alloc | apply pw_below_drewN | apply below_drew1) | exact HB.out)⟩

end Go.Proofs.Ytbcnfnpjookndaa.PP
