/-
  TwinNone: of a configuration that may not be there is no play: for every configuration and operation the law returns true. The package-level variables tag.none and op.names are tied to the program's text.
-/
import Derived.Test.YtbkclmbfblncoaaGreatDoorCeSe
import Derived.Test.YtbkclmbfblncoaaGreatDoorT6
import Derived.Test.YtbkclmbfblncoaaGreatDoorRows
import Derived.Test.YtbkclmbfblncoaaGreatDoorTie
import Derived.Test.YtbkclmbfblncoaaGreatDoorCards
import Derived.ProofKit
import Derived.LaidMore
import Derived.OpenShut
import Derived.Stop.Joined
import Derived.SevenTiedAt
namespace Go.Proofs.YtbkclmbfblncoaaGreatDoor
open Go Go.ChangeShapes Go.WideShapes Go.ChangeAt Go.WideMaps Go.WideElems Go.RowKit
set_option maxRecDepth 100000

theorem own : ownKnob Tryz.prog.godebug = none := by kernel_rfl
noncomputable def laidL : List (String × DataW Unit) := [("quitrent/tag.none", Rows.laid_quitrent_tag_none), ("quitrent/op.names", Rows.laid_quitrent_op_names)]
theorem gNum0 : Tryz.prog.globalNamed "quitrent/tag.none" = some 1 := by kernel_rfl
theorem gTyp0 : (Tryz.prog.globals[1]?).map (·.type) = some 73 := by kernel_rfl
theorem gNum1 : Tryz.prog.globalNamed "quitrent/op.names" = some 0 := by kernel_rfl
theorem gTyp1 : (Tryz.prog.globals[0]?).map (·.type) = some 151 := by kernel_rfl
theorem door_met (os : Os) (args : Array Value) : laidMetH Tryz.prog laidL ((World.doorLaid Tryz.prog 400 os).forCall (fun _ _ => 0) ⟨#[], args, []⟩).memory :=
  laidMetH_of_parts3 (fuel := 8) (laidMet_of_run' 8 (by kernel_rfl) (by kernel_rfl)) (by kernel_rfl) (by kernel_rfl)
theorem of_laid {W : World} (h : laidMetH Tryz.prog laidL W) : 2 ≤ W.heap.size ∧ ∀ g vs, (g, vs) ∈ [(1, CE.zeroVs), (0, CE.nameVs)] → ∃ t n, CE.Holds W g t n vs := by
  rw [MakeChecks.laidMetH_plain _ _ _ (by kernel_rfl)] at h
  obtain ⟨ps, h0, _, _⟩ := h
  obtain ⟨g0, t0, cs0, f0, p0, q0, hg0, ht0, hv0, hd0, h1, _⟩ := h0
  obtain rfl := Option.some.inj (gNum0.symm.trans hg0)
  obtain rfl := Option.some.inj (gTyp0.symm.trans ht0)
  obtain ⟨tt0, fr0, hh0⟩ := CE.var_heap gNum0 hv0
  have k0 := CE.holds_of_trod hh0 Tryz.underlying73 (show Tryz.prog.cellsOf 3 = 1 by kernel_rfl) (show CE.elemB Tryz.prog 3 = true by kernel_rfl) hd0
  obtain ⟨g1, t1, cs1, f1, p1, q1, hg1, ht1, hv1, hd1, h2, _⟩ := h1
  obtain rfl := Option.some.inj (gNum1.symm.trans hg1)
  obtain rfl := Option.some.inj (gTyp1.symm.trans ht1)
  obtain ⟨tt1, fr1, hh1⟩ := CE.var_heap gNum1 hv1
  have k1 := CE.holds_of_trod hh1 Tryz.underlying151 (show Tryz.prog.cellsOf 9 = 1 by kernel_rfl) (show CE.elemB Tryz.prog 9 = true by kernel_rfl) hd1
  refine ⟨(Array.getElem?_eq_some_iff.1 hh0).1, fun g vs hm => ?_⟩
  simp only [List.mem_cons, List.not_mem_nil, or_false, Prod.mk.injEq] at hm
  rcases hm with ⟨rfl, rfl⟩ | ⟨rfl, rfl⟩
  · exact ⟨_, _, k0⟩
  · exact ⟨_, _, k1⟩

theorem ds_of {H : Type} {enc : TypeId × Value → H} {P : Program} {W : World} {t0 t1 : TypeId} {vs : List Value} {ds : List (DataW H)} {ps : List MemPlace} (h : DataW.TrodAll enc P W 0 (fun _ => true) true [t0, t1] vs ds ps) : ∃ d0 d1, ds = [d0, d1] := by
  obtain ⟨_, _, d0, _, _, _, rfl, rfl, rfl, _, h0⟩ := trodAll_cons h
  obtain ⟨_, _, d1, _, _, _, rfl, rfl, rfl, _, h1⟩ := trodAll_cons h0
  obtain ⟨rfl, rfl, rfl⟩ := trodAll_nil h1
  exact ⟨d0, d1, rfl⟩

theorem lifted (os : Os) (started : os.Started) (H : Type) (enc : TypeId × Value → H) :
    ReturnsInHanded {} Tryz.checked os 3 .any (fun w args => (Rows.twinNoneSpec.pre enc Tryz.prog Tryz.f3 [] false w args ∧ laidMetH Tryz.prog laidL w) ∧ sizedMet enc Tryz.prog Tryz.f3 (OpenSpec.ofChange Rows.twinNoneSpec) false w args)
      (Rows.twinNoneSpec.post enc Tryz.prog Tryz.f3 false true false false) := by
  refine returnsInHanded_of_change_and (C := Tryz.checked) (X := fun w _ => laidMetH Tryz.prog laidL w) (fun _ _ _ hh h => h.of_heap hh) own started (by kernel_rfl) Tryz.func3
    (ChangeSpec.witness_shaped (enc := enc) (C := Tryz.checked) (os := os) (X := fun w _ => laidMetH Tryz.prog laidL w) false (World.doorLaid Tryz.prog 400 os) #[.agg #[.int .i64 0, .int .i64 0, .int .i64 0, .int .i64 0], .agg #[.int .i64 0, .int .i64 0, .int .i64 0, .int .i64 0, .int .u32 0]] 8 rfl (World.shaped_of_RefB (by kernel_rfl) (by kernel_rfl)) (by kernel_rfl) (by kernel_rfl) (by kernel_rfl) (door_met os _)) ?_
  intro W base args ds gs before hval0 hW _ _ hL _
  have hval : ∀ (j : Nat) t v, Tryz.f3.params[j]? = some t → args[j]? = some v → Value.okWide Tryz.prog W .any base t v := hval0
  have hW' := hW
  obtain ⟨p, q, hA0, hV, rfl, hfz, hnd⟩ := hW
  have hA : DataW.TrodAll enc Tryz.prog W 0 (fun _ => true) true Tryz.f3.params.toList args.toList ds p := hA0
  rw [Tryz.params3] at hA hval
  obtain ⟨rfl, rfl⟩ := trodVars_none hV
  have hlen : args.toList.length = [23, 26].length := CE.trodAll_len hA
  obtain ⟨x, hx⟩ := CE.args_open (P := Tryz.prog) (w := W) (r := .any) (base := base) (ts := [23, 26]) (l := (.cons (.agg (.cons CE.TI (.cons CE.TI (.cons CE.TI (.cons CE.TI .nil))))) (.cons (.agg (.cons CE.TI (.cons CE.TI (.cons CE.TI (.cons CE.TI (.cons (.i .u32) .nil)))))) .nil))) (vs := args.toList) (by kernel_rfl) hlen (fun j t v h1 h2 => hval j t v (by simpa using h1) (by simpa using h2))
  obtain ⟨hG, hn⟩ := of_laid hL
  have hargs : args = args.toList.toArray := by simp
  rw [hargs]
  have hlt : ∀ y ∈ p, y.block < W.heap.size := fun y hy => by simpa using hW'.lt y (by simpa using hy)
  obtain ⟨d0, d1, rfl⟩ := ds_of hA
  refine (CE.pure_calls CE.law_ok hG (by kernel_rfl) (fun g vs hm => hn g vs (by simp only [List.mem_cons, List.not_mem_nil, or_false] at hm ⊢; exact hm.symm)) (x := x) hx rfl (fun _ _ => by kernel_rfl)).mono fun e W' ⟨y, he, hy, hb⟩ => ?_
  have hy : CE.RelV (CE.rho0 0) (.bool true) y := hy _
  rw [CE.RelV] at hy
  subst hy
  subst he
  simp only [List.append_nil] at hW'
  rw [← hargs]
  refine ⟨_, rfl, CE.post_of_below (pa := p) (pv := []) hW' (fun _ _ _ => trodAll_mk1 (shut_bool Tryz.underlying4 _)) (fun sp hsp => ?_) (fun _ _ => rfl) (by simp) hb (ok_one (by kernel_rfl) rfl (okWide_bool_mk Tryz.underlying4 _))⟩
  show DataW.TrodAll enc Tryz.prog W' 0 sp true Tryz.f3.params.toList args.toList _ p
  rw [Tryz.params3]
  exact CE.args_stay (by kernel_rfl) hb (by kernel_rfl) hA hlt (fun y hy => hsp y (by simpa using hy))

theorem row_holds : Rows.TwinNoneSaid :=
  OpenClaim.holds_of_wide 3 Tryz.f3 rfl rfl rfl rfl rfl rfl rfl ⟨rfl, rfl, rfl, rfl, rfl⟩ rfl rfl rfl rfl rfl (by kernel_rfl) Tryz.func3 (by kernel_rfl)
    (of_decide_eq_true (by kernel_rfl)) (by unfold Func.isWrapper; first | (rw [if_pos (by decide +kernel)]; kernel_rfl) | (rw [if_neg (by decide +kernel)]; exact ⟨rfl, rfl⟩))
    (fun os started H enc _ => lifted os started H enc)

theorem twinNone_holds : Rows.TwinNoneCardSaid :=
  Claim7.holds_tied_plain_at .later [] [.data, .data] true (true, "b6664743660f63108d26ecc0a87bf81e2cb2cf60f283936baefef274e78627bf") false
    row_holds (fun _ h => by cases h) (by kernel_rfl) (fun _ h => by cases h) twinNone_row_tie rfl ⟨rfl, rfl⟩ (by kernel_rfl) rfl
    (fun f fn hf hfn => by
      obtain rfl : f = 3 := Option.some.inj ((show Tryz.prog.funcNamed "quitrent/quitrentlaw26.TwinNone" = some 3 by kernel_rfl).symm.trans hf) |>.symm
      obtain rfl : fn = Tryz.f3 := (Option.some.inj (Tryz.func3.symm.trans hfn)).symm
      exact ⟨by kernel_rfl, fun j t ht => by
        rw [Tryz.params3] at ht
        have hm : t ∈ [23, 26] := by simpa using Array.mem_of_getElem? ht
        have hall : ([23, 26].all fun u => !Tryz.prog.wantsStandIn u) = true := by kernel_rfl
        exact (show Tryz.prog.wantsStandIn t = false by simpa using List.all_eq_true.1 hall t hm)⟩)
    (by kernel_rfl)
#print axioms twinNone_holds
end Go.Proofs.YtbkclmbfblncoaaGreatDoor
