/-
  IdealNobody: a nil ideal heap answers nothing, and a new one is made just if the configuration may be: for every configuration, operation and number the law returns true. The package-level variable op.names is tied to the program's text.
-/
import Derived.Test.YtnodogpaadobnaaDoorCeSe
import Derived.Test.YtnodogpaadobnaaDoorI1
import Derived.Test.YtnodogpaadobnaaDoorRows
import Derived.Test.YtnodogpaadobnaaDoorTie
import Derived.Test.YtnodogpaadobnaaDoorCards
import Derived.ProofKit
import Derived.LaidMore
import Derived.OpenShut
import Derived.Stop.Joined
import Derived.SevenTiedAt
namespace Go.Proofs.YtnodogpaadobnaaDoor
open Go Go.ChangeShapes Go.WideShapes Go.ChangeAt Go.WideMaps Go.WideElems Go.RowKit
set_option maxRecDepth 100000

theorem own : ownKnob Tryd.prog.godebug = none := by kernel_rfl
noncomputable def laidL : List (String × DataW Unit) := [("quitrent/op.names", Rows.laid_quitrent_op_names)]
theorem gNum0 : Tryd.prog.globalNamed "quitrent/op.names" = some 0 := by kernel_rfl
theorem gTyp0 : (Tryd.prog.globals[0]?).map (·.type) = some 125 := by kernel_rfl
theorem door_met (os : Os) (args : Array Value) : laidMetH Tryd.prog laidL ((World.doorLaid Tryd.prog 400 os).forCall (fun _ _ => 0) ⟨#[], args, []⟩).memory :=
  laidMetH_of_parts3 (fuel := 8) (laidMet_of_run' 8 (by kernel_rfl) (by kernel_rfl)) (by kernel_rfl) (by kernel_rfl)
theorem of_laid {W : World} (h : laidMetH Tryd.prog laidL W) : 1 ≤ W.heap.size ∧ ∀ g vs, (g, vs) ∈ [(0, CE.nameVs)] → ∃ t n, CE.Holds W g t n vs := by
  rw [MakeChecks.laidMetH_plain _ _ _ (by kernel_rfl)] at h
  obtain ⟨ps, h0, _, _⟩ := h
  obtain ⟨g0, t0, cs0, f0, p0, q0, hg0, ht0, hv0, hd0, h1, _⟩ := h0
  obtain rfl := Option.some.inj (gNum0.symm.trans hg0)
  obtain rfl := Option.some.inj (gTyp0.symm.trans ht0)
  obtain ⟨tt0, fr0, hh0⟩ := CE.var_heap gNum0 hv0
  have k0 := CE.holds_of_trod hh0 Tryd.underlying125 (show Tryd.prog.cellsOf 9 = 1 by kernel_rfl) (show CE.elemB Tryd.prog 9 = true by kernel_rfl) hd0
  refine ⟨(Array.getElem?_eq_some_iff.1 hh0).1, fun g vs hm => ?_⟩
  simp only [List.mem_cons, List.not_mem_nil, or_false, Prod.mk.injEq] at hm
  obtain ⟨rfl, rfl⟩ := hm
  exact ⟨_, _, k0⟩

theorem ds_of {H : Type} {enc : TypeId × Value → H} {P : Program} {W : World} {t0 t1 t2 : TypeId} {vs : List Value} {ds : List (DataW H)} {ps : List MemPlace} (h : DataW.TrodAll enc P W 0 (fun _ => true) true [t0, t1, t2] vs ds ps) : ∃ d0 d1 d2, ds = [d0, d1, d2] := by
  obtain ⟨_, _, d0, _, _, _, rfl, rfl, rfl, _, h0⟩ := trodAll_cons h
  obtain ⟨_, _, d1, _, _, _, rfl, rfl, rfl, _, h1⟩ := trodAll_cons h0
  obtain ⟨_, _, d2, _, _, _, rfl, rfl, rfl, _, h2⟩ := trodAll_cons h1
  obtain ⟨rfl, rfl, rfl⟩ := trodAll_nil h2
  exact ⟨d0, d1, d2, rfl⟩

theorem lifted (os : Os) (started : os.Started) (H : Type) (enc : TypeId × Value → H) :
    ReturnsInHanded {} Tryd.checked os 7 .any (fun w args => (Rows.idealNobodySpec.pre enc Tryd.prog Tryd.f7 [] false w args ∧ laidMetH Tryd.prog laidL w) ∧ sizedMet enc Tryd.prog Tryd.f7 (OpenSpec.ofChange Rows.idealNobodySpec) false w args)
      (Rows.idealNobodySpec.post enc Tryd.prog Tryd.f7 false true false false) := by
  refine returnsInHanded_of_change_and (C := Tryd.checked) (X := fun w _ => laidMetH Tryd.prog laidL w) (fun _ _ _ hh h => h.of_heap hh) own started (by kernel_rfl) Tryd.func7
    (ChangeSpec.witness_shaped (enc := enc) (C := Tryd.checked) (os := os) (X := fun w _ => laidMetH Tryd.prog laidL w) false (World.doorLaid Tryd.prog 400 os) #[.agg #[.int .i64 0, .int .i64 0, .int .i64 0, .int .i64 0], .agg #[.int .i64 0, .int .i64 0, .int .i64 0, .int .i64 0, .int .u32 0], .int .i64 0] 8 rfl (World.shaped_of_RefB (by kernel_rfl) (by kernel_rfl)) (by kernel_rfl) (by kernel_rfl) (by kernel_rfl) (door_met os _)) ?_
  intro W base args ds gs before hval0 hW _ _ hL _
  have hval : ∀ (j : Nat) t v, Tryd.f7.params[j]? = some t → args[j]? = some v → Value.okWide Tryd.prog W .any base t v := hval0
  have hW' := hW
  obtain ⟨p, q, hA0, hV, rfl, hfz, hnd⟩ := hW
  have hA : DataW.TrodAll enc Tryd.prog W 0 (fun _ => true) true Tryd.f7.params.toList args.toList ds p := hA0
  rw [Tryd.params7] at hA hval
  obtain ⟨rfl, rfl⟩ := trodVars_none hV
  have hlen : args.toList.length = [32, 42, 3].length := CE.trodAll_len hA
  obtain ⟨x, hx⟩ := CE.args_open (P := Tryd.prog) (w := W) (r := .any) (base := base) (ts := [32, 42, 3]) (l := (.cons (.agg (.cons CE.TI (.cons CE.TI (.cons CE.TI (.cons CE.TI .nil))))) (.cons (.agg (.cons CE.TI (.cons CE.TI (.cons CE.TI (.cons CE.TI (.cons (.i .u32) .nil)))))) (.cons CE.TI .nil)))) (vs := args.toList) (by kernel_rfl) hlen (fun j t v h1 h2 => hval j t v (by simpa using h1) (by simpa using h2))
  obtain ⟨hG, hn⟩ := of_laid hL
  have hargs : args = args.toList.toArray := by simp
  rw [hargs]
  have hlt : ∀ y ∈ p, y.block < W.heap.size := fun y hy => by simpa using hW'.lt y (by simpa using hy)
  obtain ⟨d0, d1, d2, rfl⟩ := ds_of hA
  refine (CE.pure_calls CE.nobody_ok hG (by kernel_rfl) hn (x := x) hx rfl (fun _ _ => by kernel_rfl)).mono fun e W' ⟨y, he, hy, hb⟩ => ?_
  have hy : CE.RelV (CE.rho0 0) (.bool true) y := hy _
  rw [CE.RelV] at hy
  subst hy
  subst he
  simp only [List.append_nil] at hW'
  rw [← hargs]
  refine ⟨_, rfl, CE.post_of_below (pa := p) (pv := []) hW' (fun _ _ _ => trodAll_mk1 (shut_bool Tryd.underlying4 _)) (fun sp hsp => ?_) (fun _ _ => rfl) (by simp) hb (ok_one (by kernel_rfl) rfl (okWide_bool_mk Tryd.underlying4 _))⟩
  show DataW.TrodAll enc Tryd.prog W' 0 sp true Tryd.f7.params.toList args.toList _ p
  rw [Tryd.params7]
  exact CE.args_stay (by kernel_rfl) hb (by kernel_rfl) hA hlt (fun y hy => hsp y (by simpa using hy))

theorem row_holds : Rows.IdealNobodySaid :=
  OpenClaim.holds_of_wide 7 Tryd.f7 rfl rfl rfl rfl rfl rfl rfl ⟨rfl, rfl, rfl, rfl, rfl⟩ rfl rfl rfl rfl rfl (by kernel_rfl) Tryd.func7 (by kernel_rfl)
    (of_decide_eq_true (by kernel_rfl)) (by unfold Func.isWrapper; first | (rw [if_pos (by decide +kernel)]; kernel_rfl) | (rw [if_neg (by decide +kernel)]; exact ⟨rfl, rfl⟩))
    (fun os started H enc _ => lifted os started H enc)

theorem idealNobody_holds : Rows.IdealNobodyCardSaid :=
  Claim7.holds_tied_plain_at .later [] [.data] true (true, "ea578d624dd26d03e99359cb29d48b67e5cc564440e827ba52874fea916c593d") false
    row_holds (fun _ h => by cases h) (by kernel_rfl) (fun _ h => by cases h) idealNobody_row_tie rfl ⟨rfl, rfl⟩ (by kernel_rfl) rfl
    (fun f fn hf hfn => by
      obtain rfl : f = 7 := Option.some.inj ((show Tryd.prog.funcNamed "quitrent/quitrentlaw23.IdealNobody" = some 7 by kernel_rfl).symm.trans hf) |>.symm
      obtain rfl : fn = Tryd.f7 := (Option.some.inj (Tryd.func7.symm.trans hfn)).symm
      exact ⟨by kernel_rfl, fun j t ht => by
        rw [Tryd.params7] at ht
        have hm : t ∈ [32, 42, 3] := by simpa using Array.mem_of_getElem? ht
        have hall : ([32, 42, 3].all fun u => !Tryd.prog.wantsStandIn u) = true := by kernel_rfl
        exact (show Tryd.prog.wantsStandIn t = false by simpa using List.all_eq_true.1 hall t hm)⟩)
    (by kernel_rfl)
#print axioms idealNobody_holds
end Go.Proofs.YtnodogpaadobnaaDoor
