/-
  CensusNobody: of a nil ground there is nothing: for every number the law returns true. The package-level variable tag.none is tied to the program's text.
-/
import Derived.Test.YtlmedbpejncppaaGreatDoorCeSe
import Derived.Test.YtlmedbpejncppaaGreatDoorC4
import Derived.Test.YtlmedbpejncppaaGreatDoorRows
import Derived.Test.YtlmedbpejncppaaGreatDoorTie
import Derived.Test.YtlmedbpejncppaaGreatDoorCards
import Derived.ProofKit
import Derived.LaidMore
import Derived.OpenShut
import Derived.Stop.Joined
import Derived.SevenTiedAt
namespace Go.Proofs.YtlmedbpejncppaaGreatDoor
open Go Go.ChangeShapes Go.WideShapes Go.ChangeAt Go.WideMaps Go.WideElems Go.RowKit
set_option maxRecDepth 100000

theorem own : ownKnob Tryz.prog.godebug = none := by kernel_rfl
noncomputable def laidL : List (String × DataW Unit) := [("quitrent/tag.none", Rows.laid_quitrent_tag_none)]
theorem gNum0 : Tryz.prog.globalNamed "quitrent/tag.none" = some 1 := by kernel_rfl
theorem gTyp0 : (Tryz.prog.globals[1]?).map (·.type) = some 36 := by kernel_rfl
theorem door_met (os : Os) (args : Array Value) : laidMetH Tryz.prog laidL ((World.doorLaid Tryz.prog 400 os).forCall (fun _ _ => 0) ⟨#[], args, []⟩).memory :=
  laidMetH_of_parts3 (fuel := 8) (laidMet_of_run' 8 (by kernel_rfl) (by kernel_rfl)) (by kernel_rfl) (by kernel_rfl)
theorem of_laid {W : World} (h : laidMetH Tryz.prog laidL W) : 2 ≤ W.heap.size ∧ ∀ g vs, (g, vs) ∈ [(1, CE.zeroVs)] → ∃ t n, CE.Holds W g t n vs := by
  rw [MakeChecks.laidMetH_plain _ _ _ (by kernel_rfl)] at h
  obtain ⟨ps, h0, _, _⟩ := h
  obtain ⟨g0, t0, cs0, f0, p0, q0, hg0, ht0, hv0, hd0, h1, _⟩ := h0
  obtain rfl := Option.some.inj (gNum0.symm.trans hg0)
  obtain rfl := Option.some.inj (gTyp0.symm.trans ht0)
  obtain ⟨tt0, fr0, hh0⟩ := CE.var_heap gNum0 hv0
  have k0 := CE.holds_of_trod hh0 Tryz.underlying36 (show Tryz.prog.cellsOf 3 = 1 by kernel_rfl) (show CE.elemB Tryz.prog 3 = true by kernel_rfl) hd0
  refine ⟨(Array.getElem?_eq_some_iff.1 hh0).1, fun g vs hm => ?_⟩
  simp only [List.mem_cons, List.not_mem_nil, or_false, Prod.mk.injEq] at hm
  obtain ⟨rfl, rfl⟩ := hm
  exact ⟨_, _, k0⟩

theorem ds_of {H : Type} {enc : TypeId × Value → H} {P : Program} {W : World} {t0 : TypeId} {vs : List Value} {ds : List (DataW H)} {ps : List MemPlace} (h : DataW.TrodAll enc P W 0 (fun _ => true) true [t0] vs ds ps) : ∃ d0, ds = [d0] := by
  obtain ⟨_, _, d0, _, _, _, rfl, rfl, rfl, _, h0⟩ := trodAll_cons h
  obtain ⟨rfl, rfl, rfl⟩ := trodAll_nil h0
  exact ⟨d0, rfl⟩

theorem lifted (os : Os) (started : os.Started) (H : Type) (enc : TypeId × Value → H) :
    ReturnsInHanded {} Tryz.checked os 3 .any (fun w args => (Rows.censusNobodySpec.pre enc Tryz.prog Tryz.f3 [] false w args ∧ laidMetH Tryz.prog laidL w) ∧ sizedMet enc Tryz.prog Tryz.f3 (OpenSpec.ofChange Rows.censusNobodySpec) false w args)
      (Rows.censusNobodySpec.post enc Tryz.prog Tryz.f3 false true false false) := by
  refine returnsInHanded_of_change_and (C := Tryz.checked) (X := fun w _ => laidMetH Tryz.prog laidL w) (fun _ _ _ hh h => h.of_heap hh) own started (by kernel_rfl) Tryz.func3
    (ChangeSpec.witness_shaped (enc := enc) (C := Tryz.checked) (os := os) (X := fun w _ => laidMetH Tryz.prog laidL w) false (World.doorLaid Tryz.prog 400 os) #[.int .i64 0] 8 rfl (World.shaped_of_RefB (by kernel_rfl) (by kernel_rfl)) (by kernel_rfl) (by kernel_rfl) (by kernel_rfl) (door_met os _)) ?_
  intro W base args ds gs before hval0 hW _ _ hL _
  have hval : ∀ (j : Nat) t v, Tryz.f3.params[j]? = some t → args[j]? = some v → Value.okWide Tryz.prog W .any base t v := hval0
  have hW' := hW
  obtain ⟨p, q, hA0, hV, rfl, hfz, hnd⟩ := hW
  have hA : DataW.TrodAll enc Tryz.prog W 0 (fun _ => true) true Tryz.f3.params.toList args.toList ds p := hA0
  rw [Tryz.params3] at hA hval
  obtain ⟨rfl, rfl⟩ := trodVars_none hV
  have hlen : args.toList.length = [3].length := CE.trodAll_len hA
  obtain ⟨x, hx⟩ := CE.args_open (P := Tryz.prog) (w := W) (r := .any) (base := base) (ts := [3]) (l := (.cons CE.TI .nil)) (vs := args.toList) (by kernel_rfl) hlen (fun j t v h1 h2 => hval j t v (by simpa using h1) (by simpa using h2))
  obtain ⟨hG, hn⟩ := of_laid hL
  have hargs : args = args.toList.toArray := by simp
  rw [hargs]
  have hlt : ∀ y ∈ p, y.block < W.heap.size := fun y hy => by simpa using hW'.lt y (by simpa using hy)
  obtain ⟨d0, rfl⟩ := ds_of hA
  refine (CE.pure_calls CE.law_ok hG (by kernel_rfl) hn (x := x) hx rfl (fun _ _ => by kernel_rfl)).mono fun e W' ⟨y, he, hy, hb⟩ => ?_
  have hy : CE.RelV (CE.rho0 0) (.bool true) y := hy _
  rw [CE.RelV] at hy
  subst hy
  subst he
  simp only [List.append_nil] at hW'
  rw [← hargs]
  refine ⟨_, rfl, CE.post_of_below (pa := p) (pv := []) hW' (fun _ _ _ => trodAll_mk1 (shut_bool Tryz.underlying4 _)) (fun sp hsp => ?_) (fun _ _ => rfl) (by simp) hb (ok_one (by kernel_rfl) rfl (okWide_bool_mk Tryz.underlying4 _))⟩
  show DataW.TrodAll enc Tryz.prog W' 0 sp true Tryz.f3.params.toList args.toList _ p
  rw [Tryz.params3]
  exact CE.args_stay (by kernel_rfl) hb (by kernel_rfl) hA hlt (fun y hy => hsp y (by simpa using hy))

theorem row_holds : Rows.CensusNobodySaid :=
  OpenClaim.holds_of_wide 3 Tryz.f3 rfl rfl rfl rfl rfl rfl rfl ⟨rfl, rfl, rfl, rfl, rfl⟩ rfl rfl rfl rfl rfl (by kernel_rfl) Tryz.func3 (by kernel_rfl)
    (of_decide_eq_true (by kernel_rfl)) (by unfold Func.isWrapper; first | (rw [if_pos (by decide +kernel)]; kernel_rfl) | (rw [if_neg (by decide +kernel)]; exact ⟨rfl, rfl⟩))
    (fun os started H enc _ => lifted os started H enc)

theorem censusNobody_holds : Rows.CensusNobodyCardSaid :=
  Claim7.holds_tied_plain_at .later [] [.data] true (true, "5d691657e5aa4fadd8b512a0fe9c990e4e48f69f0ac5530b8cae6a955891fa01") false
    row_holds (fun _ h => by cases h) (by kernel_rfl) (fun _ h => by cases h) censusNobody_row_tie rfl ⟨rfl, rfl⟩ (by kernel_rfl) rfl
    (fun f fn hf hfn => by
      obtain rfl : f = 3 := Option.some.inj ((show Tryz.prog.funcNamed "quitrent/quitrentlaw24.CensusNobody" = some 3 by kernel_rfl).symm.trans hf) |>.symm
      obtain rfl : fn = Tryz.f3 := (Option.some.inj (Tryz.func3.symm.trans hfn)).symm
      exact ⟨by kernel_rfl, fun j t ht => by
        rw [Tryz.params3] at ht
        have hm : t ∈ [3] := by simpa using Array.mem_of_getElem? ht
        have hall : ([3].all fun u => !Tryz.prog.wantsStandIn u) = true := by kernel_rfl
        exact (show Tryz.prog.wantsStandIn t = false by simpa using List.all_eq_true.1 hall t hm)⟩)
    (by kernel_rfl)
#print axioms censusNobody_holds
end Go.Proofs.YtlmedbpejncppaaGreatDoor
