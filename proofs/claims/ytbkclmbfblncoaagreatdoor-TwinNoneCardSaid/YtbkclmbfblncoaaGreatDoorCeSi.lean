/-
  SYMBOLIC EVALUATION, 9: the contract of a function of plain values where something is so.
-/
import Derived.Test.YtbkclmbfblncoaaGreatDoorCeSd
noncomputable section
namespace Go.CE
open Go
set_option linter.unusedVariables false

def pureI (gl : List (Nat × List V)) (A R : Ty) (p : A.T → Bool) (r : A.T → R.T) : List V → Mem → Option (V × Mem) := fun as m => match outTs A as with
  | some a => match glB m gl with
    | true => match p a with
      | true => some (inT R (r a), m)
      | false => none
    | false => none
  | none => none
def pureK {β : Type} (gl : List (Nat × List V)) (A R : Ty) (p : A.T → Bool) (r : A.T → R.T) : List V → Mem → (V → Mem → Option β) → Option β := fun as m κ => match outTs A as with
  | some a => match glB m gl with
    | true => bif p a then κ (inT R (r a)) m else none
    | false => none
  | none => none
theorem pureK_some {β : Type} {gl : List (Nat × List V)} {A R : Ty} {p : A.T → Bool} {r : A.T → R.T} {as m} {κ : V → Mem → Option β} {b : β} (h : pureK gl A R p r as m κ = some b) : ∃ v m', pureI gl A R p r as m = some (v, m') ∧ κ v m' = some b := by
  unfold pureK at h
  unfold pureI
  split at h
  · rename_i a ha
    split at h
    · rename_i hb
      cases hp : p a with
      | true =>
        rw [hp] at h
        exact ⟨inT R (r a), m, by simp only [ha, hb, hp], h⟩
      | false => rw [hp] at h; cases h
    · cases h
  · cases h
theorem pureI_ok {P : Program} {G : Nat} {f : FuncId} {gl : List (Nat × List V)} {A R : Ty} {d : A.T → R.T} {p : A.T → Bool} {r : A.T → R.T} (h : SumOk P G f (pureE gl A R d)) (hd : ∀ a, p a = true → d a = r a) : SumOk P G f (pureI gl A R p r) := fun as m v m' he => h as m v m' (by
  unfold pureI at he
  unfold pureE
  split at he
  · rename_i a ha
    split at he
    · rename_i hb
      split at he
      · rename_i hp
        cases he
        simp only [ha, hb, hd a hp]
      · cases he
    · cases he
  · cases he)
def KTab.addI (K : KTab) (f : FuncId) (gl : List (Nat × List V)) (A R : Ty) (p : A.T → Bool) (r : A.T → R.T) : KTab := ⟨fun g => bif Nat.beq g f then some (pureK gl A R p r) else K.get g⟩
theorem KOk.addI {K : KTab} {T : Tab} (hK : KOk K T) (f : FuncId) (gl : List (Nat × List V)) (A R : Ty) (p : A.T → Bool) (r : A.T → R.T) : KOk (K.addI f gl A R p r) (T.add f (pureI gl A R p r)) := fun β g e' h => by
  have h : (bif Nat.beq g f then some (pureK gl A R p r) else K.get g) = some e' := h
  show ∃ e, (bif Nat.beq g f then some (pureI gl A R p r) else T.sum g) = some e ∧ _
  cases hb : Nat.beq g f with
  | true =>
    rw [hb] at h; cases h
    exact ⟨_, rfl, fun as m κ b hh => pureK_some hh⟩
  | false =>
    rw [hb] at h
    exact hK β g e' h
end Go.CE
