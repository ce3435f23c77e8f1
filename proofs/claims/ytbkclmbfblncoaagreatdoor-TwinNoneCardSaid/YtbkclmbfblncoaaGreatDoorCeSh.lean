/-
  SYMBOLIC EVALUATION, 8: the contract of a function of plain values from closed evaluation.
-/
import Derived.Test.YtbkclmbfblncoaaGreatDoorCeSd
noncomputable section
namespace Go.CE
open Go
set_option linter.unusedVariables false

theorem vOf_some {o : Option (V × Mem)} {v : V} (h : vOf o = some v) : ∃ m, o = some (v, m) := by
  cases o with
  | none => cases h
  | some p => obtain ⟨u, m⟩ := p; cases h; exact ⟨m, rfl⟩
theorem pureC_ok {P : Program} {T : Tab} (hT : TabOk P T) (hmix : P.follows .mixedOrders = true) {f : FuncId} {gl : List (Nat × List V)} {A R : Ty} {d : A.T → R.T} {N D n : Nat} (hfn : ∃ fn c, P.funcs[f]? = some fn ∧ fn.body = some c) (hgl : glFine T.g gl = true)
    (h : ∀ tt nn a, vOf (callE (envD P T N D) n f (inTs A a) (memG T.g (glRows tt nn gl))) = some (inT R (d a))) : SumOk P T.g f (pureE gl A R d) := fun as m v m' he => by
  refine ⟨hfn, fun F w0 ρ w xs hm hg ha => ?_⟩
  unfold pureE at he
  split at he
  · rename_i a hA
    split at he
    · rename_i hb
      cases he
      have hA := outTs_in A as a hA
      subst hA
      have hrm := memG_rm2 (G := T.g) (g0 := F.g) (l := glRows (tyAt m) (szAt m) gl) (w := w) (Nat.le_trans hm.gsz hm.size) (gl_holds hm hg hgl hb)
      obtain ⟨m1, hrun⟩ := vOf_some (h (tyAt m) (szAt m) a)
      refine (callD_ok hT hmix hrun hrm (fun g hg => ⟨0, if_pos hg⟩) (inTs_flat A a xs ha)).mono fun e w' ⟨ρ', x, h1, h2, h3, h4⟩ => ?_
      exact ⟨ρ, x, h1, Ext.refl ρ, inT_flat R _ x h3, hm.later h4.below2⟩
    · cases he
  · cases he
/-! what calls of plain values were found to come to -/
def findL (as : List V) : List (List V × V) → Option V
  | [] => none
  | p :: l => match V.beqL p.1 as with
    | true => some p.2
    | false => findL as l
def memoE (gl : List (Nat × List V)) (l : List (List V × V)) : List V → Mem → Option (V × Mem) := fun as m => match findL as l with
  | some v => match glB m gl with
    | true => some (v, m)
    | false => none
  | none => none
def memoFine : List (List V × V) → Bool
  | [] => true
  | p :: l => V.flatBs p.1 && (p.2.flatB && memoFine l)
def AllRuns (E : Env) (n : Nat) (f : FuncId) (m : Mem) : List (List V × V) → Prop
  | [] => True
  | p :: l => vOf (callE E n f p.1 m) = some p.2 ∧ AllRuns E n f m l
theorem findL_mem {E : Env} {n : Nat} {f : FuncId} {m : Mem} {as : List V} {v : V} : ∀ {l : List (List V × V)}, findL as l = some v → memoFine l = true → AllRuns E n f m l → V.flatBs as = true ∧ v.flatB = true ∧ vOf (callE E n f as m) = some v
  | [], h, _, _ => by cases h
  | p :: l, h, hf, hr => by
    rw [memoFine, Bool.and_eq_true, Bool.and_eq_true] at hf
    unfold findL at h
    split at h
    · rename_i hb
      cases h
      have e := V.beqL_eq _ _ hb
      subst e
      exact ⟨hf.1, hf.2.1, hr.1⟩
    · exact findL_mem h hf.2.2 hr.2
theorem memo_ok {P : Program} {T : Tab} (hT : TabOk P T) (hmix : P.follows .mixedOrders = true) {f : FuncId} {gl : List (Nat × List V)} {l : List (List V × V)} {N D n : Nat} (hfn : ∃ fn c, P.funcs[f]? = some fn ∧ fn.body = some c) (hgl : glFine T.g gl = true) (hl : memoFine l = true)
    (h : ∀ tt nn, AllRuns (envD P T N D) n f (memG T.g (glRows tt nn gl)) l) : SumOk P T.g f (memoE gl l) := fun as m v m' he => by
  refine ⟨hfn, fun F w0 ρ w xs hm hg ha => ?_⟩
  unfold memoE at he
  split at he
  · rename_i v' hv
    split at he
    · rename_i hb
      cases he
      obtain ⟨h1, h2, h3⟩ := findL_mem hv hl (h (tyAt m) (szAt m))
      have hrm := memG_rm2 (G := T.g) (g0 := F.g) (l := glRows (tyAt m) (szAt m) gl) (w := w) (Nat.le_trans hm.gsz hm.size) (gl_holds hm hg hgl hb)
      obtain ⟨m1, hrun⟩ := vOf_some h3
      refine (callD_ok hT hmix hrun hrm (fun g hg => ⟨0, if_pos hg⟩) (V.flats_rel as xs h1 ha)).mono fun e w' ⟨ρ', x, k1, k2, k3, k4⟩ => ?_
      exact ⟨ρ, x, k1, Ext.refl ρ, V.flat_rel v x h2 k3, hm.later k4.below2⟩
    · cases he
  · cases he
end Go.CE
