/-
  ReportNobody: of a nil ground there are no lines: for all lists of texts the law returns true. The package-level variable tag.none is tied to the program's text.
-/
import Derived.Test.YtlmedbpejncppaaGreatDoorCeFour
import Derived.Test.YtlmedbpejncppaaGreatDoorCeZ
import Derived.Test.YtlmedbpejncppaaGreatDoorRN
import Derived.Test.YtlmedbpejncppaaGreatDoorRS
import Derived.Test.YtlmedbpejncppaaGreatDoorRows
import Derived.Test.YtlmedbpejncppaaGreatDoorTie
import Derived.Test.YtlmedbpejncppaaGreatDoorCards
import Derived.ProofKit
import Derived.LaidMore
import Derived.OpenShut
import Derived.Stop.Joined
import Derived.SevenTiedAt
namespace Go.Proofs.YtlmedbpejncppaaGreatDoor
open Go Go.ChangeShapes Go.WideShapes Go.ChangeAt Go.WideMaps Go.WideElems Go.RowKit
set_option maxRecDepth 100000

theorem own : ownKnob Tryz.prog.godebug = none := by kernel_rfl
noncomputable def laidL : List (String × DataW Unit) := [("quitrent/tag.none", Rows.laid_quitrent_tag_none)]
theorem gNum0 : Tryz.prog.globalNamed "quitrent/tag.none" = some 1 := by kernel_rfl
theorem gTyp0 : (Tryz.prog.globals[1]?).map (·.type) = some 36 := by kernel_rfl
theorem door_met (os : Os) (args : Array Value) : laidMetH Tryz.prog laidL ((World.doorLaid Tryz.prog 400 os).forCall (fun _ _ => 0) ⟨#[], args, []⟩).memory :=
  laidMetH_of_parts3 (fuel := 8) (laidMet_of_run' 8 (by kernel_rfl) (by kernel_rfl)) (by kernel_rfl) (by kernel_rfl)
theorem of_laid {W : World} (h : laidMetH Tryz.prog laidL W) : 2 ≤ W.heap.size ∧ ∀ g vs, (g, vs) ∈ [(1, CE.zeroVs)] → ∃ t n, CE.Holds W g t n vs := by
  rw [MakeChecks.laidMetH_plain _ _ _ (by kernel_rfl)] at h
  obtain ⟨ps, h0, _, _⟩ := h
  obtain ⟨g0, t0, cs0, f0, p0, q0, hg0, ht0, hv0, hd0, h1, _⟩ := h0
  obtain rfl := Option.some.inj (gNum0.symm.trans hg0)
  obtain rfl := Option.some.inj (gTyp0.symm.trans ht0)
  obtain ⟨tt0, fr0, hh0⟩ := CE.var_heap gNum0 hv0
  have k0 := CE.holds_of_trod hh0 Tryz.underlying36 (show Tryz.prog.cellsOf 3 = 1 by kernel_rfl) (show CE.elemB Tryz.prog 3 = true by kernel_rfl) hd0
  refine ⟨(Array.getElem?_eq_some_iff.1 hh0).1, fun g vs hm => ?_⟩
  simp only [List.mem_cons, List.not_mem_nil, or_false, Prod.mk.injEq] at hm
  obtain ⟨rfl, rfl⟩ := hm
  exact ⟨_, _, k0⟩

theorem ds_of {H : Type} {enc : TypeId × Value → H} {P : Program} {W : World} {t0 : TypeId} {vs : List Value} {ds : List (DataW H)} {ps : List MemPlace} (h : DataW.TrodAll enc P W 0 (fun _ => true) true [t0] vs ds ps) : ∃ d0, ds = [d0] := by
  obtain ⟨_, _, d0, _, _, _, rfl, rfl, rfl, _, h0⟩ := trodAll_cons h
  obtain ⟨rfl, rfl, rfl⟩ := trodAll_nil h0
  exact ⟨d0, rfl⟩

theorem lifted (os : Os) (started : os.Started) (H : Type) (enc : TypeId × Value → H) :
    ReturnsInHanded {} Tryz.checked os 4 .any (fun w args => (Rows.reportNobodySpec.pre enc Tryz.prog Tryz.f4 [] false w args ∧ laidMetH Tryz.prog laidL w) ∧ sizedMet enc Tryz.prog Tryz.f4 (OpenSpec.ofChange Rows.reportNobodySpec) false w args)
      (Rows.reportNobodySpec.post enc Tryz.prog Tryz.f4 false true false false) := by
  refine returnsInHanded_of_change_and (C := Tryz.checked) (X := fun w _ => laidMetH Tryz.prog laidL w) (fun _ _ _ hh h => h.of_heap hh) own started (by kernel_rfl) Tryz.func4
    (ChangeSpec.witness_shaped (enc := enc) (C := Tryz.checked) (os := os) (X := fun w _ => laidMetH Tryz.prog laidL w) false (World.doorLaid Tryz.prog 400 os) #[.slice none 0 0] 8 rfl (World.shaped_of_RefB (by kernel_rfl) (by kernel_rfl)) (by kernel_rfl) (by kernel_rfl) (by kernel_rfl) (door_met os _)) ?_
  intro W base args ds gs before hval0 hW _ hsz0 hL _
  have hsz : (DataW.weightsEach Tryz.prog (Tryz.f4.params.toList ++ Rows.reportNobodySpec.plain.varTypes Tryz.prog) (ds ++ gs)).all (· ≤ reachBytes) = true := hsz0
  have hval : ∀ (j : Nat) t v, Tryz.f4.params[j]? = some t → args[j]? = some v → Value.okWide Tryz.prog W .any base t v := hval0
  have hW' := hW
  obtain ⟨p, q, hA0, hV, rfl, hfz, hnd⟩ := hW
  have hA : DataW.TrodAll enc Tryz.prog W 0 (fun _ => true) true Tryz.f4.params.toList args.toList ds p := hA0
  rw [Tryz.params4] at hA hval hsz
  obtain ⟨rfl, rfl⟩ := trodVars_none hV
  have hlen : args.toList.length = [43].length := CE.trodAll_len hA
  obtain ⟨hG, hn⟩ := of_laid hL
  have hlt : ∀ y ∈ p, y.block < W.heap.size := fun y hy => by simpa using hW'.lt y (by simpa using hy)
  obtain ⟨v0, vs0, d0, ds0, p0, q0, hv0, hd0, hp0, h0, r0⟩ := trodAll_cons hA
  obtain ⟨hvn, hdn, hpn⟩ := trodAll_nil r0
  have hargs : args = #[v0] := by cases args; simp_all
  obtain ⟨a0, len0, cap0, e0⟩ := okWide_slice Tryz.underlying43 (hval 0 43 v0 rfl (by rw [hargs]; rfl))
  rw [e0] at h0 hargs
  obtain ⟨l0, n0, c0, C0, s0⟩ := PP.strs_open Tryz.underlying43 Tryz.underlying9 (by kernel_rfl) hsz (j := 0) (t := 43) (d := d0) rfl (by rw [hd0]; rfl) h0
  subst n0
  obtain rfl : ds = [d0] := by rw [hd0, hdn]
  have hG2 : PP.Gl W := ⟨hG, hn⟩
  rw [hargs]
  refine (PP.quitrentlaw33_ReportNobody.calls a0 cap0 l0 W C0 c0 s0 hG2).mono fun e W' ⟨he, hb⟩ => ?_
  subst he
  simp only [List.append_nil] at hW'
  rw [← hargs]
  refine ⟨_, rfl, CE.post_of_below (pa := p) (pv := []) hW' (fun _ _ _ => trodAll_mk1 (shut_bool Tryz.underlying4 _)) (fun sp hsp => ?_) (fun _ _ => rfl) (by simp) hb (ok_one (by kernel_rfl) rfl (okWide_bool_mk Tryz.underlying4 _))⟩
  show DataW.TrodAll enc Tryz.prog W' 0 sp true Tryz.f4.params.toList args.toList _ p
  rw [Tryz.params4]
  exact CE.args_stay (by kernel_rfl) hb (by kernel_rfl) hA hlt (fun y hy => hsp y (by simpa using hy))

theorem row_holds : Rows.ReportNobodySaid :=
  OpenClaim.holds_of_wide 4 Tryz.f4 rfl rfl rfl rfl rfl rfl rfl ⟨rfl, rfl, rfl, rfl, rfl⟩ rfl rfl rfl rfl rfl (by kernel_rfl) Tryz.func4 (by kernel_rfl)
    (of_decide_eq_true (by kernel_rfl)) (by unfold Func.isWrapper; first | (rw [if_pos (by decide +kernel)]; kernel_rfl) | (rw [if_neg (by decide +kernel)]; exact ⟨rfl, rfl⟩))
    (fun os started H enc _ => lifted os started H enc)

theorem reportNobody_holds : Rows.ReportNobodyCardSaid :=
  Claim7.holds_tied_plain_at .later [] [.data] true (true, "5d691657e5aa4fadd8b512a0fe9c990e4e48f69f0ac5530b8cae6a955891fa01") false
    row_holds (fun _ h => by cases h) (by kernel_rfl) (fun _ h => by cases h) reportNobody_row_tie rfl ⟨rfl, rfl⟩ (by kernel_rfl) rfl
    (fun f fn hf hfn => by
      obtain rfl : f = 4 := Option.some.inj ((show Tryz.prog.funcNamed "quitrent/quitrentlaw33.ReportNobody" = some 4 by kernel_rfl).symm.trans hf) |>.symm
      obtain rfl : fn = Tryz.f4 := (Option.some.inj (Tryz.func4.symm.trans hfn)).symm
      exact ⟨by kernel_rfl, fun j t ht => by
        rw [Tryz.params4] at ht
        have hm : t ∈ [43] := by simpa using Array.mem_of_getElem? ht
        have hall : ([43].all fun u => !Tryz.prog.wantsStandIn u) = true := by kernel_rfl
        exact (show Tryz.prog.wantsStandIn t = false by simpa using List.all_eq_true.1 hall t hm)⟩)
    (by kernel_rfl)
#print axioms reportNobody_holds
end Go.Proofs.YtlmedbpejncppaaGreatDoor
