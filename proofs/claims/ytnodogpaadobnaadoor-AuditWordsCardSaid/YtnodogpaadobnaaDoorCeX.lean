/-
  CLOSED EVALUATION, 24: seat D: AuditWords.
-/
import Derived.Test.YtnodogpaadobnaaDoorCeW
noncomputable section
namespace Go.CE
open Go Go.RowKit Go.Proofs
set_option linter.unusedSimpArgs false
set_option linter.unusedVariables false
set_option maxRecDepth 100000

def zeroAt (cs : Tr V) (i : Nat) : Bool := match cs.get i with
  | some v => V.beq v (.int .i64 0)
  | none => false
def sum25 (us : List V) (m : Mem) : Option (V × Mem) := match us with
  | [] => match m.t.get 1 with
    | some (.row false t n cs) => match zeroAt cs 0 && zeroAt cs 1 && zeroAt cs 2 && zeroAt cs 3 && zeroAt cs 4 with
      | true => some (.bool true, m)
      | false => none
    | _ => none
  | _ => none
def tabB : Tab := ⟨2, tabA.ext, fun f => bif Nat.beq f 12 then some sum25 else none⟩
theorem zeroAt_eq {cs : Tr V} {i : Nat} (h : zeroAt cs i = true) : cs.get i = some (.int .i64 0) := by
  unfold zeroAt at h
  split at h
  · rename_i v hv
    rw [hv, V.beq_eq _ _ h]
  · cases h
theorem RM.later {F : Fx} {w0 w w' : World} {ρ : Rho} {m : Mem} (h : RM F w0 ρ m w) (hb : Below w.heap.size w w') : RM F w0 ρ m w' :=
  ⟨fun i b hi => by
    obtain ⟨r, c, h1, h2⟩ := h.blk i b hi
    exact ⟨r, c, h1, h2.move (Ext.refl ρ) (hb.block r h2.lt)⟩, h.inj, h.fresh, h.fn, h.gsz, Nat.le_trans h.size hb.size, fun k hk => (hb.block k (by have := h.fn k hk; have := h.size; omega)).trans (h.keep k hk), hb.os.trans h.os, hb.tape.trans h.tape, hb.output.trans h.output⟩
theorem tabB_ok : TabOk Tryd.prog tabB where
  ng := ng_of ngD
  ext := tabA_ok.ext
  sum := fun g e us m v m1 h he => by
    have h : (bif Nat.beq g 12 then some sum25 else none) = some e := h
    cases hb : Nat.beq g 12 with
    | false => rw [hb] at h; cases h
    | true =>
      rw [hb] at h
      cases h
      obtain rfl := Nat.eq_of_beq_eq_true hb
      refine ⟨⟨Tryd.f12, _, Tryd.func12, rfl⟩, fun F w0 ρ w xs hm hg ha => ?_⟩
      unfold sum25 at he
      split at he
      · split at he
        · rename_i t n cs hrow
          split at he
          · rename_i hz
            cases he
            rw [RelL] at ha
            subst ha
            simp only [Bool.and_eq_true] at hz
            obtain ⟨c, hc⟩ := hg 1 (by show 1 < 2; omega)
            obtain ⟨_, _, xs, fr, h1, h2, h3, _⟩ := hm.at hrow hc
            have hlt : 1 < w.heap.size := (Array.getElem?_eq_some_iff.1 h1).1
            have hcell : ∀ i, zeroAt cs i = true → ∃ x : Value, xs[i]? = some x ∧ RelV (rho0 0) (.int .i64 0) x := fun i hi => by
              obtain ⟨x, k1, k2⟩ := h3 i _ (zeroAt_eq hi)
              rw [RelV] at k2
              exact ⟨x, k1, by rw [RelV]; exact k2⟩
            have hh : Holds w 1 t n noneVs := ⟨xs, fr, h1, h2, fun i v hv => by
              unfold noneVs at hv
              match i, hv with
              | 0, hv => cases hv; exact hcell 0 hz.1.1.1.1
              | 1, hv => cases hv; exact hcell 1 hz.1.1.1.2
              | 2, hv => cases hv; exact hcell 2 hz.1.1.2
              | 3, hv => cases hv; exact hcell 3 hz.1.2
              | 4, hv => cases hv; exact hcell 4 hz.2
              | i + 5, hv => simp at hv⟩
            refine (begun25_calls hlt ⟨t, n, hh⟩).mono fun e w' ⟨h4, h5⟩ => ⟨ρ, _, h4, Ext.refl ρ, by rw [RelV], hm.later h5⟩
          · cases he
        · cases he
      · cases he
end Go.CE
