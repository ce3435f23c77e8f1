/-
  ReportNobody: of a nil ground there are no lines: its walk.
-/
import Derived.Test.YtlmedbpejncppaaGreatDoorRP
namespace Go.Proofs.YtlmedbpejncppaaGreatDoor.PP
open Go Go.RowKit Go.Proofs.YtlmedbpejncppaaGreatDoorW.PrintWords Go.Proofs.YtlmedbpejncppaaGreatDoorW.PrintLast Go.Proofs.YtlmedbpejncppaaGreatDoorW.PrintMore
set_option linter.unusedVariables false
set_option linter.unusedSimpArgs false
set_option maxRecDepth 100000
theorem r_lines (tt : Nat → TypeId) (nn : Nat → Nat) : CE.vOf (CE.callE (CE.envD Tryz.prog CE.R0 20000 6) 30000 16 [.nilp] (CE.memG 2 (CE.glRows tt nn [(1, CE.zeroVs)]))) = some .nils := by kernel_rfl
theorem r_text (tt : Nat → TypeId) (nn : Nat → Nat) : CE.vOf (CE.callE (CE.envD Tryz.prog CE.R0 20000 6) 30000 17 [.nilp] (CE.memG 2 (CE.glRows tt nn [(1, CE.zeroVs)]))) = some (.str []) := by kernel_rfl
theorem lines_calls (w : World) (hG : Gl w) : Calls Tryz.prog 16 #[.pointer none] w fun e w' => e = .returned (.slice none 0 0) ∧ Below w.heap.size w w' := by
  have hc := CE.pure_calls (CE.pureC_ok CE.R0_ok CE.mixP (N := 20000) (D := 6) (n := 30000) ⟨Tryz.f16, _, Tryz.func16, rfl⟩ rfl fun tt nn a => r_lines tt nn : CE.SumOk Tryz.prog 2 16 (CE.pureE [(1, CE.zeroVs)] (.cons (.lit .nilp) .nil) (.lit .nils) (fun _ => PUnit.unit))) hG.size (by kernel_rfl) hG.hs (x := (PUnit.unit, PUnit.unit)) (xs := [.pointer none]) (fun ρ => .cons (by show CE.RelV ρ .nilp _; rw [CE.RelV]) .nil) rfl (fun _ _ => by kernel_rfl)
  refine hc.mono fun e W' ⟨y, he, hy, hb⟩ => ?_
  have hy : CE.RelV (CE.rho0 0) .nils y := hy _
  rw [CE.RelV] at hy
  subst hy
  exact ⟨he, hb⟩
theorem text_calls (w : World) (hG : Gl w) : Calls Tryz.prog 17 #[.pointer none] w fun e w' => e = .returned (.string ⟨#[]⟩) ∧ Below w.heap.size w w' := by
  have hc := CE.pure_calls (CE.pureC_ok CE.R0_ok CE.mixP (N := 20000) (D := 6) (n := 30000) ⟨Tryz.f17, _, Tryz.func17, rfl⟩ rfl fun tt nn a => r_text tt nn : CE.SumOk Tryz.prog 2 17 (CE.pureE [(1, CE.zeroVs)] (.cons (.lit .nilp) .nil) (.lit (.str [])) (fun _ => PUnit.unit))) hG.size (by kernel_rfl) hG.hs (x := (PUnit.unit, PUnit.unit)) (xs := [.pointer none]) (fun ρ => .cons (by show CE.RelV ρ .nilp _; rw [CE.RelV]) .nil) rfl (fun _ _ => by kernel_rfl)
  refine hc.mono fun e W' ⟨y, he, hy, hb⟩ => ?_
  have hy : CE.RelV (CE.rho0 0) (.str []) y := hy _
  rw [CE.RelV] at hy
  subst hy
  exact ⟨he, hb⟩
theorem changed_nil (a : List ByteArray) : (changed a []).length = a.length := by
  have h1 : goneL a [] ⟨#[45, 32]⟩ = a.map fun x => (⟨#[45, 32]⟩ : ByteArray) ++ x := by
    unfold goneL
    have : (a.filter fun x => !hasL [] x) = a := by
      rw [List.filter_eq_self]
      intro x hx
      rfl
    rw [this]
  have h2 : goneL [] a ⟨#[43, 32]⟩ = [] := rfl
  unfold changed
  rw [h1, h2]; simp
/-- What is told of a list and of none. -/
theorem nil_calls (A0 : Option Addr) (c0 : Nat) (l0 : List ByteArray) (w : World) (hr0 : Kd.C Kd.string w A0 l0.length l0) (hc0 : l0.length ≤ c0) (hl : l0.length ≤ 100) (hs : ∀ x ∈ l0, x.size ≤ 140737488351232) :
    Calls Tryz.prog 18 #[.slice A0 l0.length c0, .slice none 0 0] w fun e w' => (∃ A c, e = .returned (.slice A l0.length c)) ∧ Below w.heap.size w w' := by
  have h := report_Changes.calls 999 A0 c0 l0 none 0 [] (changed l0 []) w hr0 hc0 ⟨rfl, by simp, fun h => by simp at h⟩ (by simp) (changes_f l0 [] hl (by simp) hs (by simp) 999 (by omega))
  refine h.mono fun e w' ⟨v, he, ho, hb⟩ => ?_
  obtain ⟨A, c, e1⟩ := Kd.R_slice ho
  rw [e1, changed_nil] at he
  exact ⟨⟨A, c, he⟩, hb⟩
theorem quitrentlaw33_ReportNobody.calls (A0 : Option Addr) (c0 : Nat) (l0 : List ByteArray) (w : World) (hr0 : Kd.C Kd.string w A0 l0.length l0) (hc0 : l0.length ≤ c0) (hs : ∀ x ∈ l0, x.size ≤ 140737488351232) (hG : Gl w) :
    Calls Tryz.prog 4 #[.slice A0 l0.length c0] w fun e w' => e = .returned (.bool true) ∧ Below w.heap.size w w' := by
  have HR0 := Aside0.mk hr0
  have HC0 := Aside0.mk hc0
  clear hr0 hc0
  have HB := Aside0.mk (Below.refl w.heap.size w)
  by_cases c4 : (l0.length : Int) > 100
  · have c4b0 : decide (100 < (l0.length : Int)) = true := decide_eq_true c4
    have c4b1 : decide (100 < l0.length) = true := decide_eq_true (by omega)
    clear c4
    go_enter Tryz.func4, Tryz.ntmps4
    go_wp2_with (first | ((with_reducible refine gate_callee (f := 15) rfl ?_); refine goesL_ (some 7) rfl rfl Tryz.func15 (by kernel_rfl) rfl #[] rfl (by (try simp only [List.map_toArray, List.map_cons, List.map_nil]); first | done | rfl | (simp only [List.length_drop, List.length_take]; rfl)) ?_; (with_reducible refine (quitrentlaw33_begun.calls true _ rfl (gl_below hG (by repeat (first | (with_reducible first | exact HB.out | apply below_alloc | apply pw_below_drewN | apply below_drew1) | exact HB.out)))).mono ?_); rintro e w7 ⟨rfl, hb⟩; refine ⟨_, rfl, ?_⟩; have n0_ := Aside0.mk (below_step (by repeat (first | (with_reducible first | exact HB.out | apply below_alloc | apply pw_below_drewN | apply below_drew1) | exact HB.out)) hb); clear HB; have HB := n0_; clear n0_; (try clear hb)))
    go_ret
    exact ⟨by first | rfl | (simp [*]; done), by repeat (first | (with_reducible first | exact HB.out | apply below_alloc | apply pw_below_drewN | apply below_drew1) | exact HB.out)⟩
  · have hl : l0.length ≤ 100 := by omega
    have c4b0 : decide (100 < (l0.length : Int)) = false := decide_eq_false c4
    have c4b1 : decide (100 < l0.length) = false := decide_eq_false (by omega)
    clear c4
    go_enter Tryz.func4, Tryz.ntmps4
    go_wp2_with (first | (go_at_call 16; (with_reducible refine (lines_calls _ (gl_below hG (by repeat (first | (with_reducible first | exact HB.out | apply below_alloc | apply pw_below_drewN | apply below_drew1) | exact HB.out)))).mono ?_); rintro e w8 ⟨rfl, hb⟩; have n0_ := Aside0.mk (below_step (by repeat (first | (with_reducible first | exact HB.out | apply below_alloc | apply pw_below_drewN | apply below_drew1) | exact HB.out)) hb); clear HB; have HB := n0_; clear n0_; (try clear hb)) | (go_at_call 17; (with_reducible refine (text_calls _ (gl_below hG (by repeat (first | (with_reducible first | exact HB.out | apply below_alloc | apply pw_below_drewN | apply below_drew1) | exact HB.out)))).mono ?_); rintro e w9 ⟨rfl, hb⟩; have n0_ := Aside0.mk (below_step (by repeat (first | (with_reducible first | exact HB.out | apply below_alloc | apply pw_below_drewN | apply below_drew1) | exact HB.out)) hb); clear HB; have HB := n0_; clear n0_; (try clear hb)) | (go_at_call 18; (with_reducible refine (nil_calls _ _ l0 _ ?side1 ?side2 hl hs).mono ?_); (case side1 => repeat (first | exact (Kd.C_below HR0.out HB.out) | (with_reducible refine Kd.C_alloc ?_ _) | (with_reducible refine Kd.C_drewN ?_ _) | (with_reducible refine Kd.C_drew ?_))); (case side2 => exact HC0.out); rintro e w10 ⟨⟨A1, c1, rfl⟩, hb⟩; have n0_ := Aside0.mk (below_step (by repeat (first | (with_reducible first | exact HB.out | apply below_alloc | apply pw_below_drewN | apply below_drew1) | exact HB.out)) hb); clear HB; have HB := n0_; clear n0_; (try clear hb)) | (go_at_call 15; (with_reducible refine (quitrentlaw33_begun.calls true _ rfl (gl_below hG (by repeat (first | (with_reducible first | exact HB.out | apply below_alloc | apply pw_below_drewN | apply below_drew1) | exact HB.out)))).mono ?_); rintro e w11 ⟨rfl, hb⟩; have n0_ := Aside0.mk (below_step (by repeat (first | (with_reducible first | exact HB.out | apply below_alloc | apply pw_below_drewN | apply below_drew1) | exact HB.out)) hb); clear HB; have HB := n0_; clear n0_; (try clear hb)) | ((with_reducible refine gate_callee (f := 15) rfl ?_); refine goesL_ (some 26) rfl rfl Tryz.func15 (by kernel_rfl) rfl #[] rfl (by (try simp only [List.map_toArray, List.map_cons, List.map_nil]); first | done | rfl | (simp only [List.length_drop, List.length_take]; rfl)) ?_; (with_reducible refine (quitrentlaw33_begun.calls true _ rfl (gl_below hG (by repeat (first | (with_reducible first | exact HB.out | apply below_alloc | apply pw_below_drewN | apply below_drew1) | exact HB.out)))).mono ?_); rintro e w7 ⟨rfl, hb⟩; refine ⟨_, rfl, ?_⟩; have n0_ := Aside0.mk (below_step (by repeat (first | (with_reducible first | exact HB.out | apply below_alloc | apply pw_below_drewN | apply below_drew1) | exact HB.out)) hb); clear HB; have HB := n0_; clear n0_; (try clear hb)))
    go_ret
    exact ⟨by first | rfl | (simp [*]; done), by repeat (first | (with_reducible first | exact HB.out | apply below_alloc | apply pw_below_drewN | apply below_drew1) | exact HB.out)⟩
end Go.Proofs.YtlmedbpejncppaaGreatDoor.PP
