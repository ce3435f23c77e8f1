/-
  CLOSED EVALUATION, 1: tries, values over blocks of their own numbering, and what they stand for in a world.
-/
import Derived.Calls
import Derived.WalkKit
namespace Go.CE

/-! tries -/
inductive Tr (α : Type) where
  | nil
  | node (v : Option α) (l r : Tr α)

noncomputable def Tr.get {α : Type} (t : Tr α) : Nat → Option α :=
  Tr.rec (motive := fun _ => Nat → Option α) (fun _ => none) (fun v _ _ gl gr k => bif Nat.beq k 0 then v else bif Nat.beq (Nat.mod k 2) 1 then gl (Nat.div k 2) else gr (Nat.sub (Nat.div k 2) 1)) t

noncomputable def Tr.upd {α : Type} (x : Option α) (f : Nat) : Tr α → Nat → Tr α :=
  Nat.rec (motive := fun _ => Tr α → Nat → Tr α) (fun t _ => t) (fun _ ih t => Tr.rec (motive := fun _ => Nat → Tr α)
    (fun k => bif Nat.beq k 0 then .node x .nil .nil else bif Nat.beq (Nat.mod k 2) 1 then .node none (ih .nil (Nat.div k 2)) .nil else .node none .nil (ih .nil (Nat.sub (Nat.div k 2) 1)))
    (fun v l r _ _ k => bif Nat.beq k 0 then .node x l r else bif Nat.beq (Nat.mod k 2) 1 then .node v (ih l (Nat.div k 2)) r else .node v l (ih r (Nat.sub (Nat.div k 2) 1))) t) f

noncomputable def Tr.set {α : Type} (t : Tr α) (k : Nat) (x : α) : Tr α := t.upd (some x) (k + 1) k
noncomputable def Tr.del {α : Type} (t : Tr α) (k : Nat) : Tr α := t.upd none (k + 1) k

theorem Tr.get_nil {α : Type} (k : Nat) : (Tr.nil : Tr α).get k = none := rfl
theorem Tr.get_node {α : Type} (v : Option α) (l r : Tr α) (k : Nat) :
    (Tr.node v l r).get k = if k = 0 then v else if k % 2 = 1 then l.get (k / 2) else r.get (k / 2 - 1) := by
  show (bif Nat.beq k 0 then v else bif Nat.beq (Nat.mod k 2) 1 then l.get (Nat.div k 2) else r.get (Nat.sub (Nat.div k 2) 1)) = _
  have e1 : Nat.beq k 0 = decide (k = 0) := by cases k <;> rfl
  have e2 : Nat.beq (Nat.mod k 2) 1 = decide (k % 2 = 1) := by
    show Nat.beq (k % 2) 1 = _
    by_cases h : k % 2 = 1
    · rw [h]; rfl
    · have : k % 2 = 0 := by omega
      rw [this]; rfl
  rw [e1, e2]
  by_cases h0 : k = 0
  · simp [h0]
  · by_cases h1 : k % 2 = 1 <;> simp [h0, h1] <;> rfl
theorem Tr.upd_eq {α : Type} (x : Option α) (f : Nat) (t : Tr α) (k : Nat) : t.upd x (f + 1) k =
    (match t with | .nil => if k = 0 then .node x .nil .nil else if k % 2 = 1 then .node none (upd x f .nil (k / 2)) .nil else .node none .nil (upd x f .nil (k / 2 - 1))
                  | .node v l r => if k = 0 then .node x l r else if k % 2 = 1 then .node v (upd x f l (k / 2)) r else .node v l (upd x f r (k / 2 - 1))) := by
  have e1 : Nat.beq k 0 = decide (k = 0) := by cases k <;> rfl
  have e2 : Nat.beq (Nat.mod k 2) 1 = decide (k % 2 = 1) := by
    show Nat.beq (k % 2) 1 = _
    by_cases h : k % 2 = 1
    · rw [h]; rfl
    · have : k % 2 = 0 := by omega
      rw [this]; rfl
  cases t with
  | nil =>
    show (bif Nat.beq k 0 then Tr.node x .nil .nil else bif Nat.beq (Nat.mod k 2) 1 then Tr.node none (Tr.upd x f .nil (Nat.div k 2)) .nil else Tr.node none .nil (Tr.upd x f .nil (Nat.sub (Nat.div k 2) 1))) = _
    rw [e1, e2]
    by_cases h0 : k = 0 <;> by_cases h1 : k % 2 = 1 <;> simp [h0, h1] <;> rfl
  | node v l r =>
    show (bif Nat.beq k 0 then Tr.node x l r else bif Nat.beq (Nat.mod k 2) 1 then Tr.node v (Tr.upd x f l (Nat.div k 2)) r else Tr.node v l (Tr.upd x f r (Nat.sub (Nat.div k 2) 1))) = _
    rw [e1, e2]
    by_cases h0 : k = 0 <;> by_cases h1 : k % 2 = 1 <;> simp [h0, h1] <;> rfl

theorem Tr.get_upd {α : Type} (x : Option α) : ∀ (f : Nat) (t : Tr α) (k j : Nat), k < f → (t.upd x f k).get j = if j = k then x else t.get j
  | 0, _, _, _, h => by omega
  | f + 1, t, k, j, h => by
    rw [Tr.upd_eq]
    cases t with
    | nil =>
      by_cases h0 : k = 0
      · subst h0
        simp only [if_true, Tr.get_node, Tr.get_nil]
        split <;> simp
      · simp only [h0, if_false]
        by_cases h1 : k % 2 = 1
        · simp only [h1, if_true, Tr.get_node, Tr.get_nil]
          by_cases j0 : j = 0
          · simp [j0]; omega
          · by_cases j1 : j % 2 = 1
            · simp only [j0, j1, if_false, if_true]
              rw [Tr.get_upd x f .nil (k / 2) (j / 2) (by omega), Tr.get_nil]
              by_cases e : j = k
              · subst e; simp
              · rw [if_neg (by omega), if_neg e]
            · simp only [j0, j1, if_false]
              rw [if_neg (by omega)]
        · simp only [h1, if_false, Tr.get_node, Tr.get_nil]
          by_cases j0 : j = 0
          · simp [j0]; omega
          · by_cases j1 : j % 2 = 1
            · simp only [j0, j1, if_false, if_true]
              rw [if_neg (by omega)]
            · simp only [j0, j1, if_false]
              rw [Tr.get_upd x f .nil (k / 2 - 1) (j / 2 - 1) (by omega), Tr.get_nil]
              by_cases e : j = k
              · subst e; simp
              · rw [if_neg (by omega), if_neg e]
    | node v l r =>
      by_cases h0 : k = 0
      · subst h0
        simp only [if_true, Tr.get_node]
        by_cases j0 : j = 0 <;> simp [j0]
      · simp only [h0, if_false]
        by_cases h1 : k % 2 = 1
        · simp only [h1, if_true, Tr.get_node]
          by_cases j0 : j = 0
          · simp [j0]; omega
          · by_cases j1 : j % 2 = 1
            · simp only [j0, j1, if_false, if_true]
              rw [Tr.get_upd x f l (k / 2) (j / 2) (by omega)]
              by_cases e : j = k
              · subst e; simp
              · rw [if_neg (by omega), if_neg e]
            · simp only [j0, j1, if_false]
              rw [if_neg (by omega)]
        · simp only [h1, if_false, Tr.get_node]
          by_cases j0 : j = 0
          · simp [j0]; omega
          · by_cases j1 : j % 2 = 1
            · simp only [j0, j1, if_false, if_true]
              rw [if_neg (by omega)]
            · simp only [j0, j1, if_false]
              rw [Tr.get_upd x f r (k / 2 - 1) (j / 2 - 1) (by omega)]
              by_cases e : j = k
              · subst e; simp
              · rw [if_neg (by omega), if_neg e]
theorem Tr.get_set {α : Type} (t : Tr α) (k j : Nat) (x : α) : (t.set k x).get j = if j = k then some x else t.get j := Tr.get_upd _ _ _ _ _ (by omega)
theorem Tr.get_del {α : Type} (t : Tr α) (k j : Nat) : (t.del k).get j = if j = k then none else t.get j := Tr.get_upd _ _ _ _ _ (by omega)
theorem Tr.get_set_self {α : Type} (t : Tr α) (k : Nat) (x : α) : (t.set k x).get k = some x := by rw [Tr.get_set, if_pos rfl]
theorem Tr.get_set_ne {α : Type} (t : Tr α) {k j : Nat} (x : α) (h : j ≠ k) : (t.set k x).get j = t.get j := by rw [Tr.get_set, if_neg h]
/-- A row of things, from place i on. -/
noncomputable def Tr.fill {α : Type} (l : List α) : Nat → Tr α → Tr α :=
  List.rec (motive := fun _ => Nat → Tr α → Tr α) (fun _ t => t) (fun x _ ih i t => ih (Nat.succ i) (t.set i x)) l
theorem Tr.fill_cons {α : Type} (x : α) (xs : List α) (i : Nat) (t : Tr α) : Tr.fill (x :: xs) i t = Tr.fill xs (i + 1) (t.set i x) := rfl
theorem Tr.fill_nil {α : Type} (i : Nat) (t : Tr α) : Tr.fill [] i t = t := rfl
theorem Tr.get_fill {α : Type} : ∀ (xs : List α) (i : Nat) (t : Tr α) (j : Nat), (Tr.fill xs i t).get j = if i ≤ j ∧ j < i + xs.length then xs[j - i]? else t.get j
  | [], i, t, j => by simp [Tr.fill_nil]; omega
  | x :: xs, i, t, j => by
    rw [Tr.fill_cons, Tr.get_fill xs (i + 1) _ j, Tr.get_set]
    simp only [List.length_cons]
    by_cases h1 : i + 1 ≤ j ∧ j < i + 1 + xs.length
    · rw [if_pos h1, if_pos (by omega), show j - i = (j - (i + 1)) + 1 by omega, List.getElem?_cons_succ]
    · rw [if_neg h1]
      by_cases h2 : j = i
      · subst h2; rw [if_pos rfl, if_pos (by omega)]; simp
      · rw [if_neg h2, if_neg (by omega)]
/-- n things from place i on. -/
def consO {α : Type} : Option α → Option (List α) → Option (List α)
  | none => fun _ => none
  | some x => fun o => match o with
    | none => none
    | some xs => some (x :: xs)
noncomputable def Tr.take {α : Type} (t : Tr α) (n : Nat) : Nat → Option (List α) :=
  Nat.rec (motive := fun _ => Nat → Option (List α)) (fun _ => some []) (fun _ ih i => consO (t.get i) (ih (Nat.succ i))) n
theorem Tr.take_zero {α : Type} (t : Tr α) (i : Nat) : t.take 0 i = some [] := rfl
theorem Tr.take_succ {α : Type} (t : Tr α) (n i : Nat) : t.take (n + 1) i = consO (t.get i) (t.take n (i + 1)) := rfl
theorem consO_some {α : Type} {a : Option α} {b : Option (List α)} {l : List α} (h : consO a b = some l) : ∃ x xs, a = some x ∧ b = some xs ∧ l = x :: xs := by
  cases a with
  | none => cases h
  | some x => cases b with
    | none => cases h
    | some xs => cases h; exact ⟨x, xs, rfl, rfl, rfl⟩
theorem Tr.take_get {α : Type} (t : Tr α) : ∀ (n i : Nat) (xs : List α), t.take n i = some xs → xs.length = n ∧ ∀ j, j < n → t.get (i + j) = xs[j]?
  | 0, i, xs, h => by rw [Tr.take_zero] at h; cases h; exact ⟨rfl, fun j hj => by omega⟩
  | n + 1, i, xs, h => by
    rw [Tr.take_succ] at h
    obtain ⟨x, ys, hx, hy, rfl⟩ := consO_some h
    obtain ⟨hl, hg⟩ := Tr.take_get t n (i + 1) ys hy
    refine ⟨by simp [hl], fun j hj => ?_⟩
    cases j with
    | zero => simpa using hx
    | succ j => rw [List.getElem?_cons_succ, ← hg j (by omega)]; congr 1; omega

/-! values -/
inductive Cap where
  | ex (n : Nat)
  | mi (k : Nat)
def Cap.val : Cap → Nat → Nat
  | .ex n, _ => n
  | .mi k, c => c - k

inductive V where
  | bool (b : Bool)
  | int (k : IntKind) (n : Int)
  | str (s : List UInt8)
  | nilp
  | ptr (b o : Nat)
  | pin (b o : Nat)
  | nils
  | sl (b o n : Nat) (c : Cap)
  | nilm
  | mp (b : Nat)
  | fn (f : Fn) (fi ca : List V)
  | nilf
  | nili
  | yld (b : Nat)
  | ifc (t : TypeId) (v : V)
  | agg (l : List V)
  | tup (l : List V)

/-- Where each block lies, and how many elements it may have; holes are numbers that no block has yet. -/
structure Rho where
  f : Nat → Option (Nat × Nat)
  hole : Nat → Prop
  hok : ∀ i, hole i → f i = none
instance : CoeFun Rho (fun _ => Nat → Option (Nat × Nat)) := ⟨Rho.f⟩
mutual
def RelV (ρ : Rho) : V → Value → Prop
  | .bool b, x => x = .bool b
  | .int k n, x => x = .int k n
  | .str s, x => x = .string ⟨s.toArray⟩
  | .nilp, x => x = .pointer none
  | .ptr b o, x => ∃ r c, ρ b = some (r, c) ∧ x = .pointer (some ⟨r, o, none⟩)
  | .pin b o, x => ∃ r c, ρ b = some (r, c) ∧ x = .pointer (some ⟨r, o, none⟩) ∧ o < c
  | .nils, x => x = .slice none 0 0
  | .sl b o n cp, x => ∃ r c, ρ b = some (r, c) ∧ x = .slice (some ⟨r, o, none⟩) n (cp.val c) ∧ n ≤ cp.val c
  | .nilm, x => x = .map none
  | .mp b, x => ∃ r c, ρ b = some (r, c) ∧ x = .map (some r)
  | .fn f fi ca, x => ∃ xs ys : List Value, x = .func f xs.toArray ys.toArray ∧ RelL ρ fi xs ∧ RelL ρ ca ys
  | .nilf, x => x = .nilFunc
  | .nili, x => x = .nilIface
  | .yld b, x => ∃ r c, ρ b = some (r, c) ∧ x = .func (.yield r) #[] #[]
  | .ifc t v, x => ∃ y, x = .iface t y ∧ RelV ρ v y
  | .agg l, x => ∃ xs : List Value, x = .agg xs.toArray ∧ RelL ρ l xs
  | .tup l, x => ∃ xs : List Value, x = .tuple xs.toArray ∧ RelL ρ l xs
def RelL (ρ : Rho) : List V → List Value → Prop
  | [], xs => xs = []
  | v :: vs, xs => ∃ x ys, xs = x :: ys ∧ RelV ρ v x ∧ RelL ρ vs ys
end

def Ext (ρ ρ' : Rho) : Prop := (∀ i p, ρ i = some p → ρ' i = some p) ∧ ρ'.hole = ρ.hole
theorem Ext.refl (ρ : Rho) : Ext ρ ρ := ⟨fun _ _ h => h, rfl⟩
theorem Ext.trans {a b c : Rho} (h : Ext a b) (k : Ext b c) : Ext a c := ⟨fun i p e => k.1 i p (h.1 i p e), k.2.trans h.2⟩

mutual
theorem RelV.monoF {ρ ρ' : Rho} (hx : ∀ i p, ρ i = some p → ρ' i = some p) : ∀ (v : V) (x : Value), RelV ρ v x → RelV ρ' v x
  | .bool _, _, h => by simpa [RelV] using h
  | .int _ _, _, h => by simpa [RelV] using h
  | .str _, _, h => by simpa [RelV] using h
  | .nilp, _, h => by simpa [RelV] using h
  | .ptr b o, _, h => by obtain ⟨r, c, h1, h2⟩ := (by simpa only [RelV] using h); rw [RelV]; exact ⟨r, c, hx _ _ h1, h2⟩
  | .pin b o, _, h => by obtain ⟨r, c, h1, h2⟩ := (by simpa only [RelV] using h); rw [RelV]; exact ⟨r, c, hx _ _ h1, h2⟩
  | .nils, _, h => by simpa [RelV] using h
  | .sl _ _ _ _, _, h => by obtain ⟨r, c, h1, h2, h3⟩ := (by simpa only [RelV] using h); rw [RelV]; exact ⟨r, c, hx _ _ h1, h2, h3⟩
  | .nilm, _, h => by simpa [RelV] using h
  | .mp _, _, h => by obtain ⟨r, c, h1, h2⟩ := (by simpa only [RelV] using h); rw [RelV]; exact ⟨r, c, hx _ _ h1, h2⟩
  | .fn f fi ca, _, h => by
    rw [RelV] at h ⊢
    obtain ⟨xs, ys, h1, h2, h3⟩ := h
    exact ⟨xs, ys, h1, RelL.monoF hx fi xs h2, RelL.monoF hx ca ys h3⟩
  | .nilf, _, h => by simpa [RelV] using h
  | .nili, _, h => by simpa [RelV] using h
  | .yld b, _, h => by obtain ⟨r, c, h1, h2⟩ := (by simpa only [RelV] using h); rw [RelV]; exact ⟨r, c, hx _ _ h1, h2⟩
  | .ifc t v, _, h => by
    rw [RelV] at h ⊢
    obtain ⟨y, h1, h2⟩ := h
    exact ⟨y, h1, RelV.monoF hx v y h2⟩
  | .agg l, _, h => by
    rw [RelV] at h ⊢
    obtain ⟨y, h1, h2⟩ := h
    exact ⟨y, h1, RelL.monoF hx l y h2⟩
  | .tup l, _, h => by
    rw [RelV] at h ⊢
    obtain ⟨y, h1, h2⟩ := h
    exact ⟨y, h1, RelL.monoF hx l y h2⟩
theorem RelL.monoF {ρ ρ' : Rho} (hx : ∀ i p, ρ i = some p → ρ' i = some p) : ∀ (v : List V) (x : List Value), RelL ρ v x → RelL ρ' v x
  | [], _, h => by simpa [RelL] using h
  | v :: vs, _, h => by
    rw [RelL] at h ⊢
    obtain ⟨x, ys, h1, h2, h3⟩ := h
    exact ⟨x, ys, h1, RelV.monoF hx v x h2, RelL.monoF hx vs ys h3⟩
end
theorem RelV.mono {ρ ρ' : Rho} (hx : Ext ρ ρ') (v : V) (x : Value) (h : RelV ρ v x) : RelV ρ' v x := RelV.monoF hx.1 v x h
theorem RelL.mono {ρ ρ' : Rho} (hx : Ext ρ ρ') (v : List V) (x : List Value) (h : RelL ρ v x) : RelL ρ' v x := RelL.monoF hx.1 v x h
theorem RelL.length {ρ : Rho} : ∀ {v : List V} {x : List Value}, RelL ρ v x → v.length = x.length
  | [], _, h => by rw [RelL] at h; subst h; rfl
  | v :: vs, _, h => by
    rw [RelL] at h
    obtain ⟨x, ys, rfl, _, h3⟩ := h
    simp [h3.length]
theorem RelL.get {ρ : Rho} : ∀ {v : List V} {x : List Value}, RelL ρ v x → ∀ {i : Nat} {a : V}, v[i]? = some a → ∃ y, x[i]? = some y ∧ RelV ρ a y
  | [], _, _, i, a, h => by simp at h
  | v :: vs, _, h, i, a, hi => by
    rw [RelL] at h
    obtain ⟨x, ys, rfl, h2, h3⟩ := h
    cases i with
    | zero => simp at hi; subst hi; exact ⟨x, by simp, h2⟩
    | succ i => simp at hi; obtain ⟨y, h4, h5⟩ := h3.get hi; exact ⟨y, by simpa using h4, h5⟩
theorem RelL.of_get {ρ : Rho} : ∀ {v : List V} {x : List Value}, v.length = x.length → (∀ (i : Nat) (a : V) (y : Value), v[i]? = some a → x[i]? = some y → RelV ρ a y) → RelL ρ v x
  | [], x, hl, _ => by rw [RelL]; exact List.eq_nil_of_length_eq_zero (by simpa using hl.symm)
  | v :: vs, [], hl, _ => by simp at hl
  | v :: vs, x :: xs, hl, h => by
    rw [RelL]
    exact ⟨x, xs, rfl, h 0 v x (by simp) (by simp), RelL.of_get (by simpa using hl) fun i a y h1 h2 => h (i + 1) a y (by simpa using h1) (by simpa using h2)⟩
theorem RelL.append {ρ : Rho} : ∀ {v v' : List V} {x x' : List Value}, RelL ρ v x → RelL ρ v' x' → RelL ρ (v ++ v') (x ++ x')
  | [], _, _, _, h, h' => by rw [RelL] at h; subst h; exact h'
  | v :: vs, _, _, _, h, h' => by
    rw [RelL] at h
    obtain ⟨x, ys, rfl, h2, h3⟩ := h
    rw [List.cons_append, List.cons_append, RelL]
    exact ⟨x, _, rfl, h2, h3.append h'⟩
theorem RelL.cons {ρ : Rho} {v : V} {vs : List V} {x : Value} {xs : List Value} (h : RelV ρ v x) (h' : RelL ρ vs xs) : RelL ρ (v :: vs) (x :: xs) := by
  rw [RelL]; exact ⟨x, xs, rfl, h, h'⟩
theorem RelL.nil {ρ : Rho} : RelL ρ [] [] := by rw [RelL]
theorem RelL.one {ρ : Rho} {v : V} {x : Value} (h : RelV ρ v x) : RelL ρ [v] [x] := .cons h .nil
end Go.CE
