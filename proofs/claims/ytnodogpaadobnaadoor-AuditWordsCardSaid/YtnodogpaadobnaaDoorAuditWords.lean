/-
  AuditWords: the kinds' words; of a nil ground nothing is found: for every kind the law returns true. The chapter's example, and the calls at each kind, are reckoned by a closed evaluation (the texts YtnodogpaadobnaaDoorCe..) that is proved to agree with the program. The package-level variable tag.none is tied to the program's text.
-/
import Derived.Test.YtnodogpaadobnaaDoorCeZ
import Derived.Test.YtnodogpaadobnaaDoorRows
import Derived.Test.YtnodogpaadobnaaDoorTie
import Derived.Test.YtnodogpaadobnaaDoorCards
import Derived.ProofKit
import Derived.LaidMore
import Derived.OpenShut
import Derived.Stop.Joined
import Derived.SevenTiedAt
namespace Go.Proofs.YtnodogpaadobnaaDoor
open Go Go.ChangeShapes Go.WideShapes Go.ChangeAt Go.WideMaps Go.WideElems Go.RowKit

theorem own : ownKnob Tryd.prog.godebug = none := by kernel_rfl
theorem gNone : Tryd.prog.globalNamed "quitrent/tag.none" = some 1 := by kernel_rfl
theorem tNone : (Tryd.prog.globals[1]?).map (·.type) = some 167 := by kernel_rfl
noncomputable def laid25 : List (String × DataW Unit) := [("quitrent/tag.none", Rows.laid_quitrent_tag_none)]

set_option maxRecDepth 100000 in
theorem door_met (os : Os) (args : Array Value) : laidMetH Tryd.prog laid25 ((World.doorLaid Tryd.prog 400 os).forCall (fun _ _ => 0) ⟨#[], args, []⟩).memory :=
  laidMetH_of_parts3 (fuel := 8) (laidMet_of_run' 8 (by kernel_rfl) (by kernel_rfl)) (by kernel_rfl) (by kernel_rfl)

theorem of_laid {W : World} (h : laidMetH Tryd.prog laid25 W) : 2 ≤ W.heap.size ∧ ∃ t n, CE.Holds W 1 t n CE.noneVs := by
  rw [MakeChecks.laidMetH_plain _ _ _ (by kernel_rfl)] at h
  obtain ⟨ps, ⟨g0, t0, cs0, f0, p0, q0, hg0, ht0, hv0, hd0, _, _⟩, _, _⟩ := h
  obtain rfl := Option.some.inj (gNone.symm.trans hg0)
  obtain rfl := Option.some.inj (tNone.symm.trans ht0)
  have hv : ∃ t fr, W.heap[1]? = some (.cells cs0 t fr) := by
    unfold World.var? at hv0
    rw [gNone] at hv0
    simp only [Option.bind_some] at hv0
    split at hv0
    · rename_i cs t fr hh
      cases hv0
      exact ⟨t, fr, hh⟩
    · cases hv0
  obtain ⟨t, fr, hh⟩ := hv
  have hlt : 1 < W.heap.size := (Array.getElem?_eq_some_iff.1 hh).1
  obtain ⟨xs, m1, rfl, hx1, hlen, hn, hel⟩ := DataW.trod_array Tryd.underlying167 hd0
  have c3 : Tryd.prog.cellsOf 3 = 1 := by kernel_rfl
  simp only [Prod.mk.injEq] at hx1
  have hx : List.map (fun x => x.1) xs = [.lit (.int .i64 0), .lit (.int .i64 0), .lit (.int .i64 0), .lit (.int .i64 0), .lit (.int .i64 0)] := by
    have := hx1.1
    unfold Rows.laid_quitrent_tag_none at this
    simpa using this.symm
  have hxi : ∀ (i : Nat), i < 5 → ∃ x, xs[i]? = some x ∧ x.1 = .lit (.int .i64 0) := by
    intro i hi
    have hl : i < xs.length := by omega
    cases hxx : xs[i]? with
    | none => rw [List.getElem?_eq_none_iff] at hxx; omega
    | some x =>
      refine ⟨x, rfl, ?_⟩
      have h1 : (List.map (fun x => x.1) xs)[i]? = some x.1 := by rw [List.getElem?_map, hxx]; rfl
      rw [hx] at h1
      match i, hi, h1 with
      | 0, _, h1 => simpa using h1.symm
      | 1, _, h1 => simpa using h1.symm
      | 2, _, h1 => simpa using h1.symm
      | 3, _, h1 => simpa using h1.symm
      | 4, _, h1 => simpa using h1.symm
  have cell : ∀ (i : Nat), i < 5 → cs0[i]? = some (.int .i64 0) := by
    intro i hi
    obtain ⟨x, h1, h2⟩ := hxi i hi
    have h3 := hel i hi
    rw [h1] at h3
    obtain ⟨k, e1, e2, _⟩ := DataW.trod_int Tryd.underlying3 h3
    have hk : k = 0 := by rw [e2] at h2; simpa using h2
    subst hk
    rw [c3, Nat.mul_one] at e1
    have : (cs0.toList.drop i)[0]? = some (.int .i64 0) := by
      cases hd : cs0.toList.drop i with
      | nil => simp [hd] at e1
      | cons a l => simp [hd] at e1; rw [e1]; rfl
    simpa using this
  refine ⟨hlt, t, cs0.size, cs0, fr, hh, rfl, fun i v hv => ?_⟩
  have rel : CE.RelV (CE.rho0 0) (.int .i64 0) (.int .i64 0) := by rw [CE.RelV]
  unfold CE.noneVs at hv
  match i, hv with
  | 0, hv => cases hv; exact ⟨_, cell 0 (by omega), rel⟩
  | 1, hv => cases hv; exact ⟨_, cell 1 (by omega), rel⟩
  | 2, hv => cases hv; exact ⟨_, cell 2 (by omega), rel⟩
  | 3, hv => cases hv; exact ⟨_, cell 3 (by omega), rel⟩
  | 4, hv => cases hv; exact ⟨_, cell 4 (by omega), rel⟩
  | i + 5, hv => simp at hv

set_option maxRecDepth 100000 in
theorem lifted (os : Os) (started : os.Started) (H : Type) (enc : TypeId × Value → H) :
    ReturnsInHanded {} Tryd.checked os 3 .any (fun w args => (Rows.auditWordsSpec.pre enc Tryd.prog Tryd.f3 [] false w args ∧ laidMetH Tryd.prog laid25 w) ∧ sizedMet enc Tryd.prog Tryd.f3 (OpenSpec.ofChange Rows.auditWordsSpec) false w args)
      (Rows.auditWordsSpec.post enc Tryd.prog Tryd.f3 false true false false) := by
  refine returnsInHanded_of_change_and (C := Tryd.checked) (X := fun w _ => laidMetH Tryd.prog laid25 w) (fun _ _ _ hh h => h.of_heap hh) own started (by kernel_rfl) Tryd.func3
    (ChangeSpec.witness_shaped (enc := enc) (C := Tryd.checked) (os := os) (X := fun w _ => laidMetH Tryd.prog laid25 w) false (World.doorLaid Tryd.prog 400 os) #[.int .i64 0] 8 rfl (World.shaped_of_RefB (by kernel_rfl) (by kernel_rfl)) (by kernel_rfl) (by kernel_rfl) (by kernel_rfl) (door_met os _)) ?_
  intro W base args ds gs before hval0 hW _ _ hL _
  have hval : ∀ (j : Nat) t v, Tryd.f3.params[j]? = some t → args[j]? = some v → Value.okWide Tryd.prog W .any base t v := hval0
  have hW' := hW
  obtain ⟨p, q, hA0, hV, rfl, hfz, hnd⟩ := hW
  have hA : DataW.TrodAll enc Tryd.prog W 0 (fun _ => true) true Tryd.f3.params.toList args.toList ds p := hA0
  rw [Tryd.params3] at hA hval
  obtain ⟨v0, d0, rfl, rfl, h0⟩ := trodAll_one hA
  obtain ⟨rfl, rfl⟩ := trodVars_none hV
  obtain ⟨k, rfl, rfl, rfl, wk⟩ := open_int Tryd.underlying3 (hval 0 3 v0 rfl rfl) h0
  obtain ⟨hG, hn⟩ := of_laid hL
  clear hA0 hval0
  simp only [List.append_nil] at hW'
  refine (CE.auditWords_calls k hG hn).mono fun e W' ⟨he, hw⟩ => ?_
  subst he
  exact ⟨_, rfl, CE.post_of_below (pa := []) (pv := []) hW' (fun _ _ _ => trodAll_mk1 (shut_bool Tryd.underlying4 _)) (fun sp _ => trodAll_mk1 (shut_int Tryd.underlying3 wk)) (fun _ _ => rfl) rfl hw (ok_one (by kernel_rfl) rfl (okWide_bool_mk Tryd.underlying4 _))⟩

theorem row_holds : Rows.AuditWordsSaid :=
  OpenClaim.holds_of_wide 3 Tryd.f3 rfl rfl rfl rfl rfl rfl rfl ⟨rfl, rfl, rfl, rfl, rfl⟩ rfl rfl rfl rfl rfl (by kernel_rfl) Tryd.func3 (by kernel_rfl)
    (of_decide_eq_true (by kernel_rfl)) (by unfold Func.isWrapper; first | (rw [if_pos (by decide +kernel)]; kernel_rfl) | (rw [if_neg (by decide +kernel)]; exact ⟨rfl, rfl⟩))
    (fun os started H enc _ => lifted os started H enc)

theorem auditWords_holds : Rows.AuditWordsCardSaid :=
  Claim7.holds_tied_plain_at .later [] [.data] true (true, "ea578d624dd26d03e99359cb29d48b67e5cc564440e827ba52874fea916c593d") false
    row_holds (fun _ h => by cases h) (by kernel_rfl) (fun _ h => by cases h) auditWords_row_tie rfl ⟨rfl, rfl⟩ (by kernel_rfl) rfl
    (fun f fn hf hfn => by
      obtain rfl : f = 3 := Option.some.inj ((show Tryd.prog.funcNamed "quitrent/quitrentlaw25.AuditWords" = some 3 by kernel_rfl).symm.trans hf) |>.symm
      obtain rfl : fn = Tryd.f3 := (Option.some.inj (Tryd.func3.symm.trans hfn)).symm
      exact ⟨by kernel_rfl, fun j t ht => by
        rw [Tryd.params3] at ht
        have hm : t ∈ [3] := by simpa using Array.mem_of_getElem? ht
        have hall : ([3].all fun u => !Tryd.prog.wantsStandIn u) = true := by kernel_rfl
        exact (show Tryd.prog.wantsStandIn t = false by simpa using List.all_eq_true.1 hall t hm)⟩)
    (by kernel_rfl)
#print axioms auditWords_holds
end Go.Proofs.YtnodogpaadobnaaDoor
