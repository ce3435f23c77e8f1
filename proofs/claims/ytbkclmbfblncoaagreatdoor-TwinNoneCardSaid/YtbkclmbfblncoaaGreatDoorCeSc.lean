/-
  SYMBOLIC EVALUATION, 3: typed results; a ground, wherever it lies.
-/
import Derived.Test.YtbkclmbfblncoaaGreatDoorCeSb
import Derived.Test.YtbkclmbfblncoaaGreatDoorCeV
import Derived.Below
noncomputable section
namespace Go.CE
open Go Go.RowKit
set_option linter.unusedSimpArgs false
set_option linter.unusedVariables false

mutual
def V.flatB : V → Bool
  | .ptr _ _ => false
  | .pin _ _ => false
  | .sl _ _ _ _ => false
  | .mp _ => false
  | .yld _ => false
  | .fn _ fi ca => V.flatBs fi && V.flatBs ca
  | .ifc _ v => V.flatB v
  | .agg l => V.flatBs l
  | .tup l => V.flatBs l
  | _ => true
def V.flatBs : List V → Bool
  | [] => true
  | v :: vs => v.flatB && V.flatBs vs
end
mutual
theorem V.flat_rel {ρ ρ' : Rho} : ∀ (v : V) (x : Value), v.flatB = true → RelV ρ v x → RelV ρ' v x
  | .bool _, _, _, h => by rw [RelV] at h ⊢; exact h
  | .int _ _, _, _, h => by rw [RelV] at h ⊢; exact h
  | .str _, _, _, h => by rw [RelV] at h ⊢; exact h
  | .nilp, _, _, h => by rw [RelV] at h ⊢; exact h
  | .ptr _ _, _, h, _ => by rw [V.flatB] at h; cases h
  | .pin _ _, _, h, _ => by rw [V.flatB] at h; cases h
  | .nils, _, _, h => by rw [RelV] at h ⊢; exact h
  | .sl _ _ _ _, _, h, _ => by rw [V.flatB] at h; cases h
  | .nilm, _, _, h => by rw [RelV] at h ⊢; exact h
  | .mp _, _, h, _ => by rw [V.flatB] at h; cases h
  | .yld _, _, h, _ => by rw [V.flatB] at h; cases h
  | .fn f fi ca, _, hb, h => by
    rw [V.flatB, Bool.and_eq_true] at hb
    rw [RelV] at h ⊢
    obtain ⟨xs, ys, h1, h2, h3⟩ := h
    exact ⟨xs, ys, h1, V.flats_rel fi xs hb.1 h2, V.flats_rel ca ys hb.2 h3⟩
  | .nilf, _, _, h => by rw [RelV] at h ⊢; exact h
  | .nili, _, _, h => by rw [RelV] at h ⊢; exact h
  | .ifc t v, _, hb, h => by
    rw [RelV] at h ⊢
    obtain ⟨y, h1, h2⟩ := h
    exact ⟨y, h1, V.flat_rel v y (by rwa [V.flatB] at hb) h2⟩
  | .agg l, _, hb, h => by
    rw [RelV] at h ⊢
    obtain ⟨xs, h1, h2⟩ := h
    exact ⟨xs, h1, V.flats_rel l xs (by rwa [V.flatB] at hb) h2⟩
  | .tup l, _, hb, h => by
    rw [RelV] at h ⊢
    obtain ⟨xs, h1, h2⟩ := h
    exact ⟨xs, h1, V.flats_rel l xs (by rwa [V.flatB] at hb) h2⟩
theorem V.flats_rel {ρ ρ' : Rho} : ∀ (l : List V) (xs : List Value), V.flatBs l = true → RelL ρ l xs → RelL ρ' l xs
  | [], _, _, h => by rw [RelL] at h ⊢; exact h
  | v :: vs, _, hb, h => by
    rw [V.flatBs, Bool.and_eq_true] at hb
    rw [RelL] at h ⊢
    obtain ⟨x, ys, h1, h2, h3⟩ := h
    exact ⟨x, ys, h1, V.flat_rel v x hb.1 h2, V.flats_rel vs ys hb.2 h3⟩
end
/-! typed values that name no block -/
inductive Ty where
  | i (k : IntKind)
  | b
  | s
  | lit (v : V)
  | nil
  | cons (a l : Ty)
  | agg (l : Ty)
  | tup (l : Ty)
def Ty.T : Ty → Type
  | .i _ => Int
  | .b => Bool
  | .s => List UInt8
  | .lit _ => Unit
  | .nil => Unit
  | .cons a l => a.T × l.T
  | .agg l => l.T
  | .tup l => l.T
/-- A value that is told beforehand, where it names no block. -/
def flatV (v : V) : V := bif v.flatB then v else .nilp
mutual
def inT : (t : Ty) → t.T → V
  | .i k, x => .int k x
  | .b, x => .bool x
  | .s, x => .str x
  | .lit v, _ => flatV v
  | .agg l, x => .agg (inTs l x)
  | .tup l, x => .tup (inTs l x)
  | .nil, _ => .nilp
  | .cons _ _, _ => .nilp
def inTs : (t : Ty) → t.T → List V
  | .cons a l, x => inT a x.1 :: inTs l x.2
  | _, _ => []
end
def outInt (k : IntKind) (v : V) : Option Int := match v with
  | .int k' x => match decide (k' = k) with
    | true => some x
    | false => none
  | _ => none
def outBool (v : V) : Option Bool := match v with
  | .bool x => some x
  | _ => none
def outStr (v : V) : Option (List UInt8) := match v with
  | .str x => some x
  | _ => none
theorem outInt_in {k : IntKind} {v : V} {x : Int} (h : outInt k v = some x) : v = .int k x := by
  unfold outInt at h
  split at h
  · split at h
    · rename_i hk
      cases h
      rw [of_decide_eq_true hk]
    · cases h
  · cases h
theorem outBool_in {v : V} {x : Bool} (h : outBool v = some x) : v = .bool x := by
  unfold outBool at h
  split at h
  · cases h; rfl
  · cases h
theorem outStr_in {v : V} {x : List UInt8} (h : outStr v = some x) : v = .str x := by
  unfold outStr at h
  split at h
  · cases h; rfl
  · cases h
def outAgg {α : Type} (f : List V → Option α) (v : V) : Option α := match v with
  | .agg vs => f vs
  | _ => none
def outTup {α : Type} (f : List V → Option α) (v : V) : Option α := match v with
  | .tup vs => f vs
  | _ => none
theorem outAgg_in {α : Type} {f : List V → Option α} {v : V} {x : α} (h : outAgg f v = some x) : ∃ vs, v = .agg vs ∧ f vs = some x := by
  unfold outAgg at h
  split at h
  · exact ⟨_, rfl, h⟩
  · cases h
theorem outTup_in {α : Type} {f : List V → Option α} {v : V} {x : α} (h : outTup f v = some x) : ∃ vs, v = .tup vs ∧ f vs = some x := by
  unfold outTup at h
  split at h
  · exact ⟨_, rfl, h⟩
  · cases h
def outCons {α γ : Type} (f : V → Option α) (g : List V → Option γ) (vs : List V) : Option (α × γ) := match vs with
  | v :: vs => match f v with
    | some x => match g vs with
      | some xs => some (x, xs)
      | none => none
    | none => none
  | [] => none
theorem outCons_in {α γ : Type} {f : V → Option α} {g : List V → Option γ} {vs : List V} {x : α × γ} (h : outCons f g vs = some x) : ∃ u us, vs = u :: us ∧ f u = some x.1 ∧ g us = some x.2 := by
  unfold outCons at h
  split at h
  · split at h
    · rename_i y hy
      split at h
      · rename_i ys hys
        cases h
        exact ⟨_, _, rfl, hy, hys⟩
      · cases h
    · cases h
  · cases h
def outLit (u v : V) : Option Unit := match V.beq v (flatV u) with
  | true => some ()
  | false => none
theorem outLit_in {u v : V} {x : Unit} (h : outLit u v = some x) : v = flatV u := by
  unfold outLit at h
  split at h
  · rename_i hb; exact V.beq_eq _ _ hb
  · cases h
mutual
def outT : (t : Ty) → V → Option t.T
  | .i k, v => outInt k v
  | .b, v => outBool v
  | .s, v => outStr v
  | .lit u, v => outLit u v
  | .agg l, v => outAgg (outTs l) v
  | .tup l, v => outTup (outTs l) v
  | .nil, _ => none
  | .cons _ _, _ => none
def outTs : (t : Ty) → List V → Option t.T
  | .nil, vs => match vs with
    | [] => some ()
    | _ => none
  | .cons a l, vs => outCons (outT a) (outTs l) vs
  | .i _, _ => none
  | .b, _ => none
  | .s, _ => none
  | .lit _, _ => none
  | .agg _, _ => none
  | .tup _, _ => none
end
theorem outT_both (t : Ty) : (∀ (v : V) (x : t.T), outT t v = some x → v = inT t x) ∧ (∀ (vs : List V) (x : t.T), outTs t vs = some x → vs = inTs t x) := by
  induction t with
  | i k => exact ⟨fun v x h => outInt_in h, fun vs x h => nomatch h⟩
  | b => exact ⟨fun v x h => outBool_in h, fun vs x h => nomatch h⟩
  | s => exact ⟨fun v x h => outStr_in h, fun vs x h => nomatch h⟩
  | lit u => exact ⟨fun v x h => outLit_in h, fun vs x h => nomatch h⟩
  | nil =>
    refine ⟨fun v x h => (nomatch h), fun vs x h => ?_⟩
    cases vs with
    | nil => rfl
    | cons v vs => cases h
  | cons a l ha hl =>
    refine ⟨fun v x h => (nomatch h), fun vs x h => ?_⟩
    obtain ⟨u, us, h1, h2, h3⟩ := outCons_in (f := outT a) (g := outTs l) h
    rw [h1, ha.1 u _ h2, hl.2 us _ h3]; rfl
  | agg l hl =>
    refine ⟨fun v x h => ?_, fun vs x h => nomatch h⟩
    obtain ⟨vs, h1, h2⟩ := outAgg_in (f := outTs l) h
    rw [h1, hl.2 vs _ h2]; rfl
  | tup l hl =>
    refine ⟨fun v x h => ?_, fun vs x h => nomatch h⟩
    obtain ⟨vs, h1, h2⟩ := outTup_in (f := outTs l) h
    rw [h1, hl.2 vs _ h2]; rfl
theorem outT_in (t : Ty) (v : V) (x : t.T) (h : outT t v = some x) : v = inT t x := (outT_both t).1 v x h
theorem outTs_in (t : Ty) (vs : List V) (x : t.T) (h : outTs t vs = some x) : vs = inTs t x := (outT_both t).2 vs x h
theorem inT_both {ρ ρ' : Rho} (t : Ty) : (∀ (x : t.T) (y : Value), RelV ρ (inT t x) y → RelV ρ' (inT t x) y) ∧ (∀ (x : t.T) (ys : List Value), RelL ρ (inTs t x) ys → RelL ρ' (inTs t x) ys) := by
  have hn : ∀ ys, RelL ρ ([] : List V) ys → RelL ρ' ([] : List V) ys := fun ys h => by rw [RelL] at h ⊢; exact h
  have hp : ∀ y, RelV ρ V.nilp y → RelV ρ' V.nilp y := fun ys h => by rw [RelV] at h ⊢; exact h
  induction t with
  | i k => exact ⟨fun x y h => V.flat_rel (V.int k x) y rfl h, fun x ys h => hn ys h⟩
  | b => exact ⟨fun x y h => V.flat_rel (V.bool x) y rfl h, fun x ys h => hn ys h⟩
  | s => exact ⟨fun x y h => V.flat_rel (V.str x) y rfl h, fun x ys h => hn ys h⟩
  | lit u =>
    refine ⟨fun x y h => ?_, fun x ys h => hn ys h⟩
    have h : RelV ρ (flatV u) y := h
    show RelV ρ' (flatV u) y
    refine V.flat_rel _ y ?_ h
    unfold flatV
    cases hu : u.flatB with
    | true => exact hu
    | false => rfl
  | nil => exact ⟨fun x y h => hp y h, fun x ys h => hn ys h⟩
  | cons a l ha hl =>
    refine ⟨fun x y h => hp y h, fun x ys h => ?_⟩
    have h : RelL ρ (inT a x.1 :: inTs l x.2) ys := h
    show RelL ρ' (inT a x.1 :: inTs l x.2) ys
    rw [RelL] at h ⊢
    obtain ⟨y, zs, h1, h2, h3⟩ := h
    exact ⟨y, zs, h1, ha.1 _ _ h2, hl.2 _ _ h3⟩
  | agg l hl =>
    refine ⟨fun x y h => ?_, fun x ys h => hn ys h⟩
    have h : RelV ρ (V.agg (inTs l x)) y := h
    show RelV ρ' (V.agg (inTs l x)) y
    rw [RelV] at h ⊢
    obtain ⟨xs, h1, h2⟩ := h
    exact ⟨xs, h1, hl.2 x xs h2⟩
  | tup l hl =>
    refine ⟨fun x y h => ?_, fun x ys h => hn ys h⟩
    have h : RelV ρ (V.tup (inTs l x)) y := h
    show RelV ρ' (V.tup (inTs l x)) y
    rw [RelV] at h ⊢
    obtain ⟨xs, h1, h2⟩ := h
    exact ⟨xs, h1, hl.2 x xs h2⟩
theorem inT_flat {ρ ρ' : Rho} (t : Ty) (x : t.T) (y : Value) (h : RelV ρ (inT t x) y) : RelV ρ' (inT t x) y := (inT_both t).1 x y h
theorem inTs_flat {ρ ρ' : Rho} (t : Ty) (x : t.T) (ys : List Value) (h : RelL ρ (inTs t x) ys) : RelL ρ' (inTs t x) ys := (inT_both t).2 x ys h

/-! entries of a table, and when they are right -/
def SumOk (P : Program) (G : Nat) (f : FuncId) (e : List V → Mem → Option (V × Mem)) : Prop := ∀ as m v m', e as m = some (v, m') → (∃ fn c, P.funcs[f]? = some fn ∧ fn.body = some c) ∧ ∀ F w0 ρ w xs, RM F w0 ρ m w → Glo G ρ → RelL ρ as xs →
    Calls P f (List.toArray xs) w fun e w' => ∃ ρ' x, e = .returned x ∧ Ext ρ ρ' ∧ RelV ρ' v x ∧ RM F w0 ρ' m' w'
def Tab.add (T : Tab) (f : FuncId) (e : List V → Mem → Option (V × Mem)) : Tab := ⟨T.g, T.ext, fun g => bif Nat.beq g f then some e else T.sum g⟩
theorem TabOk.add {P : Program} {T : Tab} (hT : TabOk P T) {f : FuncId} {e : List V → Mem → Option (V × Mem)} (he : SumOk P T.g f e) : TabOk P (T.add f e) where
  ng := hT.ng
  ext := hT.ext
  sum := fun g e' as m v m' h1 h2 => by
    have h1 : (bif Nat.beq g f then some e else T.sum g) = some e' := h1
    cases hb : Nat.beq g f with
    | true =>
      rw [hb] at h1
      cases h1
      obtain rfl := Nat.eq_of_beq_eq_true hb
      exact he as m v m' h2
    | false =>
      rw [hb] at h1
      exact hT.sum g e' as m v m' h1 h2
theorem RM.later {F : Fx} {w0 w w' : World} {ρ : Rho} {m : Mem} (h : RM F w0 ρ m w) (hb : Below w.heap.size w w') : RM F w0 ρ m w' :=
  ⟨fun i b hi => by
    obtain ⟨r, c, h1, h2⟩ := h.blk i b hi
    exact ⟨r, c, h1, h2.move (Ext.refl ρ) (hb.block r h2.lt)⟩, h.inj, h.fresh, h.fn, h.gsz, Nat.le_trans h.size hb.size, fun k hk => (hb.block k (by have := h.fn k hk; have := h.size; omega)).trans (h.keep k hk), hb.os.trans h.os, hb.tape.trans h.tape, hb.output.trans h.output⟩
/-- The package variables that are asked for hold what is asked. -/
def valsB (cs : Tr V) : Nat → List V → Bool
  | _, [] => true
  | i, v :: vs => (match cs.get i with
    | some u => V.beq u v
    | none => false) && valsB cs (Nat.succ i) vs
def glB (m : Mem) : List (Nat × List V) → Bool
  | [] => true
  | (g, vs) :: l => (match m.t.get g with
    | some (.row false _ _ cs) => valsB cs 0 vs
    | _ => false) && glB m l
def tyAt (m : Mem) (g : Nat) : TypeId := match m.t.get g with
  | some (.row _ t _ _) => t
  | _ => 0
def szAt (m : Mem) (g : Nat) : Nat := match m.t.get g with
  | some (.row _ _ n _) => n
  | _ => 0
def glRows (tt : Nat → TypeId) (nn : Nat → Nat) : List (Nat × List V) → List (Nat × TypeId × Nat × List V)
  | [] => []
  | (g, vs) :: l => (g, tt g, nn g, vs) :: glRows tt nn l
theorem valsB_get {cs : Tr V} : ∀ {vs : List V} {i : Nat}, valsB cs i vs = true → ∀ j v, vs[j]? = some v → cs.get (i + j) = some v
  | [], _, _, j, v, h => by simp at h
  | u :: us, i, h, j, v, hj => by
    rw [valsB, Bool.and_eq_true] at h
    cases j with
    | zero =>
      simp at hj; subst hj
      obtain ⟨h1, _⟩ := h
      split at h1
      · rename_i x hx; rw [Nat.add_zero, hx, V.beq_eq _ _ h1]
      · cases h1
    | succ j =>
      rw [List.getElem?_cons_succ] at hj
      rw [show i + (j + 1) = (i + 1) + j by omega]
      exact valsB_get h.2 j v hj
theorem glB_get {m : Mem} : ∀ {l : List (Nat × List V)}, glB m l = true → ∀ {g t n vs}, (g, t, n, vs) ∈ glRows (tyAt m) (szAt m) l → ∃ cs, m.t.get g = some (.row false t n cs) ∧ ∀ i v, vs[i]? = some v → cs.get i = some v
  | [], _, _, _, _, _, h => by cases h
  | (g', vs') :: l, hb, g, t, n, vs, h => by
    rw [glB, Bool.and_eq_true] at hb
    rw [glRows, List.mem_cons] at h
    rcases h with h | h
    · cases h
      obtain ⟨h1, _⟩ := hb
      split at h1
      · rename_i t n cs hc
        refine ⟨cs, by rw [hc]; simp only [tyAt, szAt, hc], fun i v hv => ?_⟩
        have := valsB_get h1 i v hv
        rwa [Nat.zero_add] at this
      · cases h1
    · exact glB_get hb.2 h
theorem glRows_mem {tt : Nat → TypeId} {nn : Nat → Nat} : ∀ {l : List (Nat × List V)} {g t n vs}, (g, t, n, vs) ∈ glRows tt nn l → (g, vs) ∈ l
  | [], _, _, _, _, h => by cases h
  | (g', vs') :: l, g, t, n, vs, h => by
    rw [glRows, List.mem_cons] at h
    rcases h with h | h
    · cases h; exact .head _
    · exact .tail _ (glRows_mem h)
def glFine (G : Nat) : List (Nat × List V) → Bool
  | [] => true
  | (g, vs) :: l => Nat.blt g G && (V.flatBs vs && glFine G l)
theorem glFine_mem {G : Nat} : ∀ {l : List (Nat × List V)}, glFine G l = true → ∀ {g vs}, (g, vs) ∈ l → g < G ∧ V.flatBs vs = true
  | [], _, _, _, h => by cases h
  | (g', vs') :: l, hb, g, vs, h => by
    rw [glFine, Bool.and_eq_true, Bool.and_eq_true] at hb
    rcases List.mem_cons.1 h with h | h
    · cases h; exact ⟨blt_lt hb.1, hb.2.1⟩
    · exact glFine_mem hb.2.2 h
theorem flatBs_get : ∀ {l : List V}, V.flatBs l = true → ∀ {i : Nat} {v : V}, l[i]? = some v → v.flatB = true
  | [], _, i, v, h => by simp at h
  | u :: us, hb, i, v, h => by
    rw [V.flatBs, Bool.and_eq_true] at hb
    cases i with
    | zero => simp at h; subst h; exact hb.1
    | succ i => rw [List.getElem?_cons_succ] at h; exact flatBs_get hb.2 h
theorem gl_holds {F : Fx} {w0 w : World} {ρ : Rho} {m : Mem} {G : Nat} {gl : List (Nat × List V)} (hm : RM F w0 ρ m w) (hg : Glo G ρ) (hf : glFine G gl = true) (hb : glB m gl = true) :
    ∀ g t n vs, (g, t, n, vs) ∈ glRows (tyAt m) (szAt m) gl → (g < G ∧ g < F.g) ∧ Holds w g t n vs := fun g t n vs h => by
  obtain ⟨h1, h2⟩ := glFine_mem hf (glRows_mem h)
  obtain ⟨cs, h3, h4⟩ := glB_get hb h
  obtain ⟨c, hc⟩ := hg g h1
  obtain ⟨_, k0, xs, fr, k1, k2, k3, _⟩ := hm.at h3 hc
  refine ⟨⟨h1, k0 rfl⟩, xs, fr, k1, k2, fun i v hv => ?_⟩
  obtain ⟨x, k4, k5⟩ := k3 i v (h4 i v hv)
  exact ⟨x, k4, V.flat_rel v x (flatBs_get h2 hv) k5⟩
def Fx.upto (g0 : Nat) (w : World) : Fx := ⟨fun k => k < w.heap.size, g0⟩
theorem memG_rm2 {G g0 : Nat} {l : List (Nat × TypeId × Nat × List V)} {w : World} (hG : g0 ≤ w.heap.size) (hl : ∀ g t n vs, (g, t, n, vs) ∈ l → (g < G ∧ g < g0) ∧ Holds w g t n vs) : RM (Fx.upto g0 w) w (rho0 G) (memG G l) w := by
  have z : ∀ i p, rho0 0 i = some p → rho0 G i = some p := fun i p h => by
    have h : (if i < 0 then some (i, 0) else none) = some p := h
    rw [if_neg (by omega)] at h; cases h
  refine ⟨fun i b hb => ?_, fun i j bi bj r c c' _ _ hi hj => ?_, fun i hi => ⟨?_, fun h => h⟩, fun k h => h, hG, Nat.le_refl _, fun _ _ => rfl, rfl, rfl, rfl⟩
  · obtain ⟨t, n, vs, h1, rfl⟩ := rowsAt_get hb
    obtain ⟨⟨h2, h2'⟩, xs, fr, h3, h4, h5⟩ := hl i t n vs h1
    refine ⟨i, 0, if_pos h2, fun h => (by cases h), fun _ => h2', xs, fr, h3, h4, fun j v hv => ?_, fun h => (by cases h)⟩
    rw [Tr.get_fill] at hv
    split at hv
    · rw [Nat.sub_zero] at hv
      obtain ⟨x, k1, k2⟩ := h5 j v hv
      exact ⟨x, k1, RelV.monoF z _ _ k2⟩
    · rw [Tr.get_nil] at hv; cases hv
  · have hi : (if i < G then some (i, 0) else none) = some (r, c) := hi
    have hj : (if j < G then some (j, 0) else none) = some (r, c') := hj
    split at hi
    · split at hj
      · cases hi; cases hj; rfl
      · cases hj
    · cases hi
  · have hi : G ≤ i := hi
    show (if i < G then some (i, 0) else none) = none
    rw [if_neg (by omega)]
theorem RM.below2 {g0 : Nat} {w w' : World} {ρ : Rho} {m : Mem} (h : RM (Fx.upto g0 w) w ρ m w') : Below w.heap.size w w' := ⟨h.os, h.tape, h.output, h.size, fun k hk => h.keep k hk⟩
/-- A function of plain values, that may look at package variables. -/
def pureE (gl : List (Nat × List V)) (A R : Ty) (d : A.T → R.T) : List V → Mem → Option (V × Mem) := fun as m => match outTs A as with
  | some a => match glB m gl with
    | true => some (inT R (d a), m)
    | false => none
  | none => none
theorem pure_ok {K : KTab} {q : FuncId → Tmp → Bool} {P : Program} {T : Tab} (hT : TabOk P T) (hK : KOk K T) (hmix : P.follows .mixedOrders = true) {f : FuncId} {gl : List (Nat × List V)} {A R : Ty} {d : A.T → R.T} {N D n : Nat} (hfn : ∃ fn c, P.funcs[f]? = some fn ∧ fn.body = some c) (hgl : glFine T.g gl = true)
    (h : ∀ tt nn a, callS (envK K q P T N D) n f (inTs A a) (memG T.g (glRows tt nn gl)) (fun v _ => outT R v) = some (d a)) : SumOk P T.g f (pureE gl A R d) := fun as m v m' he => by
  refine ⟨hfn, fun F w0 ρ w xs hm hg ha => ?_⟩
  unfold pureE at he
  split at he
  · rename_i a hA
    split at he
    · rename_i hb
      cases he
      have hA := outTs_in A as a hA
      subst hA
      have hrm := memG_rm2 (G := T.g) (g0 := F.g) (l := glRows (tyAt m) (szAt m) gl) (w := w) (Nat.le_trans hm.gsz hm.size) (gl_holds hm hg hgl hb)
      refine (callS_ok hT hK hmix (h (tyAt m) (szAt m) a) hrm (fun g hg => ⟨0, if_pos hg⟩) (inTs_flat A a xs ha)).mono fun e w' ⟨ρ', x, v, m', h1, h2, h3, h4, h5⟩ => ?_
      have h5 := outT_in R v _ h5
      subst h5
      exact ⟨ρ, x, h1, Ext.refl ρ, inT_flat R _ x h3, hm.later h4.below2⟩
    · cases he
  · cases he

end Go.CE
