/-
  Closed and symbolic evaluation: CeOne.
-/
import Derived.Calls
import Derived.WalkKit
import Derived.Below
import Derived.RangeFuncRecord
/-
  CLOSED EVALUATION, 1: tries, values over blocks of their own numbering, and what they stand for in a world.
-/
namespace Go.CE

/-! tries -/
inductive Tr (α : Type) where
  | nil
  | node (v : Option α) (l r : Tr α)

noncomputable def Tr.get {α : Type} (t : Tr α) : Nat → Option α :=
  Tr.rec (motive := fun _ => Nat → Option α) (fun _ => none) (fun v _ _ gl gr k => bif Nat.beq k 0 then v else bif Nat.beq (Nat.mod k 2) 1 then gl (Nat.div k 2) else gr (Nat.sub (Nat.div k 2) 1)) t

noncomputable def Tr.upd {α : Type} (x : Option α) (f : Nat) : Tr α → Nat → Tr α :=
  Nat.rec (motive := fun _ => Tr α → Nat → Tr α) (fun t _ => t) (fun _ ih t => Tr.rec (motive := fun _ => Nat → Tr α)
    (fun k => bif Nat.beq k 0 then .node x .nil .nil else bif Nat.beq (Nat.mod k 2) 1 then .node none (ih .nil (Nat.div k 2)) .nil else .node none .nil (ih .nil (Nat.sub (Nat.div k 2) 1)))
    (fun v l r _ _ k => bif Nat.beq k 0 then .node x l r else bif Nat.beq (Nat.mod k 2) 1 then .node v (ih l (Nat.div k 2)) r else .node v l (ih r (Nat.sub (Nat.div k 2) 1))) t) f

noncomputable def Tr.set {α : Type} (t : Tr α) (k : Nat) (x : α) : Tr α := t.upd (some x) (k + 1) k
noncomputable def Tr.del {α : Type} (t : Tr α) (k : Nat) : Tr α := t.upd none (k + 1) k

theorem Tr.get_nil {α : Type} (k : Nat) : (Tr.nil : Tr α).get k = none := rfl
theorem Tr.get_node {α : Type} (v : Option α) (l r : Tr α) (k : Nat) :
    (Tr.node v l r).get k = if k = 0 then v else if k % 2 = 1 then l.get (k / 2) else r.get (k / 2 - 1) := by
  show (bif Nat.beq k 0 then v else bif Nat.beq (Nat.mod k 2) 1 then l.get (Nat.div k 2) else r.get (Nat.sub (Nat.div k 2) 1)) = _
  have e1 : Nat.beq k 0 = decide (k = 0) := by cases k <;> rfl
  have e2 : Nat.beq (Nat.mod k 2) 1 = decide (k % 2 = 1) := by
    show Nat.beq (k % 2) 1 = _
    by_cases h : k % 2 = 1
    · rw [h]; rfl
    · have : k % 2 = 0 := by omega
      rw [this]; rfl
  rw [e1, e2]
  by_cases h0 : k = 0
  · simp [h0]
  · by_cases h1 : k % 2 = 1 <;> simp [h0, h1] <;> rfl
theorem Tr.upd_eq {α : Type} (x : Option α) (f : Nat) (t : Tr α) (k : Nat) : t.upd x (f + 1) k =
    (match t with | .nil => if k = 0 then .node x .nil .nil else if k % 2 = 1 then .node none (upd x f .nil (k / 2)) .nil else .node none .nil (upd x f .nil (k / 2 - 1))
                  | .node v l r => if k = 0 then .node x l r else if k % 2 = 1 then .node v (upd x f l (k / 2)) r else .node v l (upd x f r (k / 2 - 1))) := by
  have e1 : Nat.beq k 0 = decide (k = 0) := by cases k <;> rfl
  have e2 : Nat.beq (Nat.mod k 2) 1 = decide (k % 2 = 1) := by
    show Nat.beq (k % 2) 1 = _
    by_cases h : k % 2 = 1
    · rw [h]; rfl
    · have : k % 2 = 0 := by omega
      rw [this]; rfl
  cases t with
  | nil =>
    show (bif Nat.beq k 0 then Tr.node x .nil .nil else bif Nat.beq (Nat.mod k 2) 1 then Tr.node none (Tr.upd x f .nil (Nat.div k 2)) .nil else Tr.node none .nil (Tr.upd x f .nil (Nat.sub (Nat.div k 2) 1))) = _
    rw [e1, e2]
    by_cases h0 : k = 0 <;> by_cases h1 : k % 2 = 1 <;> simp [h0, h1] <;> rfl
  | node v l r =>
    show (bif Nat.beq k 0 then Tr.node x l r else bif Nat.beq (Nat.mod k 2) 1 then Tr.node v (Tr.upd x f l (Nat.div k 2)) r else Tr.node v l (Tr.upd x f r (Nat.sub (Nat.div k 2) 1))) = _
    rw [e1, e2]
    by_cases h0 : k = 0 <;> by_cases h1 : k % 2 = 1 <;> simp [h0, h1] <;> rfl

theorem Tr.get_upd {α : Type} (x : Option α) : ∀ (f : Nat) (t : Tr α) (k j : Nat), k < f → (t.upd x f k).get j = if j = k then x else t.get j
  | 0, _, _, _, h => by omega
  | f + 1, t, k, j, h => by
    rw [Tr.upd_eq]
    cases t with
    | nil =>
      by_cases h0 : k = 0
      · subst h0
        simp only [if_true, Tr.get_node, Tr.get_nil]
        split <;> simp
      · simp only [h0, if_false]
        by_cases h1 : k % 2 = 1
        · simp only [h1, if_true, Tr.get_node, Tr.get_nil]
          by_cases j0 : j = 0
          · simp [j0]; omega
          · by_cases j1 : j % 2 = 1
            · simp only [j0, j1, if_false, if_true]
              rw [Tr.get_upd x f .nil (k / 2) (j / 2) (by omega), Tr.get_nil]
              by_cases e : j = k
              · subst e; simp
              · rw [if_neg (by omega), if_neg e]
            · simp only [j0, j1, if_false]
              rw [if_neg (by omega)]
        · simp only [h1, if_false, Tr.get_node, Tr.get_nil]
          by_cases j0 : j = 0
          · simp [j0]; omega
          · by_cases j1 : j % 2 = 1
            · simp only [j0, j1, if_false, if_true]
              rw [if_neg (by omega)]
            · simp only [j0, j1, if_false]
              rw [Tr.get_upd x f .nil (k / 2 - 1) (j / 2 - 1) (by omega), Tr.get_nil]
              by_cases e : j = k
              · subst e; simp
              · rw [if_neg (by omega), if_neg e]
    | node v l r =>
      by_cases h0 : k = 0
      · subst h0
        simp only [if_true, Tr.get_node]
        by_cases j0 : j = 0 <;> simp [j0]
      · simp only [h0, if_false]
        by_cases h1 : k % 2 = 1
        · simp only [h1, if_true, Tr.get_node]
          by_cases j0 : j = 0
          · simp [j0]; omega
          · by_cases j1 : j % 2 = 1
            · simp only [j0, j1, if_false, if_true]
              rw [Tr.get_upd x f l (k / 2) (j / 2) (by omega)]
              by_cases e : j = k
              · subst e; simp
              · rw [if_neg (by omega), if_neg e]
            · simp only [j0, j1, if_false]
              rw [if_neg (by omega)]
        · simp only [h1, if_false, Tr.get_node]
          by_cases j0 : j = 0
          · simp [j0]; omega
          · by_cases j1 : j % 2 = 1
            · simp only [j0, j1, if_false, if_true]
              rw [if_neg (by omega)]
            · simp only [j0, j1, if_false]
              rw [Tr.get_upd x f r (k / 2 - 1) (j / 2 - 1) (by omega)]
              by_cases e : j = k
              · subst e; simp
              · rw [if_neg (by omega), if_neg e]
theorem Tr.get_set {α : Type} (t : Tr α) (k j : Nat) (x : α) : (t.set k x).get j = if j = k then some x else t.get j := Tr.get_upd _ _ _ _ _ (by omega)
theorem Tr.get_del {α : Type} (t : Tr α) (k j : Nat) : (t.del k).get j = if j = k then none else t.get j := Tr.get_upd _ _ _ _ _ (by omega)
theorem Tr.get_set_self {α : Type} (t : Tr α) (k : Nat) (x : α) : (t.set k x).get k = some x := by rw [Tr.get_set, if_pos rfl]
theorem Tr.get_set_ne {α : Type} (t : Tr α) {k j : Nat} (x : α) (h : j ≠ k) : (t.set k x).get j = t.get j := by rw [Tr.get_set, if_neg h]
/-- A row of things, from place i on. -/
noncomputable def Tr.fill {α : Type} (l : List α) : Nat → Tr α → Tr α :=
  List.rec (motive := fun _ => Nat → Tr α → Tr α) (fun _ t => t) (fun x _ ih i t => ih (Nat.succ i) (t.set i x)) l
theorem Tr.fill_cons {α : Type} (x : α) (xs : List α) (i : Nat) (t : Tr α) : Tr.fill (x :: xs) i t = Tr.fill xs (i + 1) (t.set i x) := rfl
theorem Tr.fill_nil {α : Type} (i : Nat) (t : Tr α) : Tr.fill [] i t = t := rfl
theorem Tr.get_fill {α : Type} : ∀ (xs : List α) (i : Nat) (t : Tr α) (j : Nat), (Tr.fill xs i t).get j = if i ≤ j ∧ j < i + xs.length then xs[j - i]? else t.get j
  | [], i, t, j => by simp [Tr.fill_nil]; omega
  | x :: xs, i, t, j => by
    rw [Tr.fill_cons, Tr.get_fill xs (i + 1) _ j, Tr.get_set]
    simp only [List.length_cons]
    by_cases h1 : i + 1 ≤ j ∧ j < i + 1 + xs.length
    · rw [if_pos h1, if_pos (by omega), show j - i = (j - (i + 1)) + 1 by omega, List.getElem?_cons_succ]
    · rw [if_neg h1]
      by_cases h2 : j = i
      · subst h2; rw [if_pos rfl, if_pos (by omega)]; simp
      · rw [if_neg h2, if_neg (by omega)]
/-- n things from place i on. -/
def consO {α : Type} : Option α → Option (List α) → Option (List α)
  | none => fun _ => none
  | some x => fun o => match o with
    | none => none
    | some xs => some (x :: xs)
noncomputable def Tr.take {α : Type} (t : Tr α) (n : Nat) : Nat → Option (List α) :=
  Nat.rec (motive := fun _ => Nat → Option (List α)) (fun _ => some []) (fun _ ih i => consO (t.get i) (ih (Nat.succ i))) n
theorem Tr.take_zero {α : Type} (t : Tr α) (i : Nat) : t.take 0 i = some [] := rfl
theorem Tr.take_succ {α : Type} (t : Tr α) (n i : Nat) : t.take (n + 1) i = consO (t.get i) (t.take n (i + 1)) := rfl
theorem consO_some {α : Type} {a : Option α} {b : Option (List α)} {l : List α} (h : consO a b = some l) : ∃ x xs, a = some x ∧ b = some xs ∧ l = x :: xs := by
  cases a with
  | none => cases h
  | some x => cases b with
    | none => cases h
    | some xs => cases h; exact ⟨x, xs, rfl, rfl, rfl⟩
theorem Tr.take_get {α : Type} (t : Tr α) : ∀ (n i : Nat) (xs : List α), t.take n i = some xs → xs.length = n ∧ ∀ j, j < n → t.get (i + j) = xs[j]?
  | 0, i, xs, h => by rw [Tr.take_zero] at h; cases h; exact ⟨rfl, fun j hj => by omega⟩
  | n + 1, i, xs, h => by
    rw [Tr.take_succ] at h
    obtain ⟨x, ys, hx, hy, rfl⟩ := consO_some h
    obtain ⟨hl, hg⟩ := Tr.take_get t n (i + 1) ys hy
    refine ⟨by simp [hl], fun j hj => ?_⟩
    cases j with
    | zero => simpa using hx
    | succ j => rw [List.getElem?_cons_succ, ← hg j (by omega)]; congr 1; omega

/-! values -/
inductive Cap where
  | ex (n : Nat)
  | mi (k : Nat)
def Cap.val : Cap → Nat → Nat
  | .ex n, _ => n
  | .mi k, c => c - k

inductive V where
  | bool (b : Bool)
  | int (k : IntKind) (n : Int)
  | str (s : List UInt8)
  | nilp
  | ptr (b o : Nat)
  | pin (b o : Nat)
  | nils
  | sl (b o n : Nat) (c : Cap)
  | nilm
  | mp (b : Nat)
  | fn (f : Fn) (fi ca : List V)
  | nilf
  | nili
  | yld (b : Nat)
  | ifc (t : TypeId) (v : V)
  | agg (l : List V)
  | tup (l : List V)

/-- Where each block lies, and how many elements it may have; holes are numbers that no block has yet. -/
structure Rho where
  f : Nat → Option (Nat × Nat)
  hole : Nat → Prop
  hok : ∀ i, hole i → f i = none
instance : CoeFun Rho (fun _ => Nat → Option (Nat × Nat)) := ⟨Rho.f⟩
mutual
def RelV (ρ : Rho) : V → Value → Prop
  | .bool b, x => x = .bool b
  | .int k n, x => x = .int k n
  | .str s, x => x = .string ⟨s.toArray⟩
  | .nilp, x => x = .pointer none
  | .ptr b o, x => ∃ r c, ρ b = some (r, c) ∧ x = .pointer (some ⟨r, o, none⟩)
  | .pin b o, x => ∃ r c, ρ b = some (r, c) ∧ x = .pointer (some ⟨r, o, none⟩) ∧ o < c
  | .nils, x => x = .slice none 0 0
  | .sl b o n cp, x => ∃ r c, ρ b = some (r, c) ∧ x = .slice (some ⟨r, o, none⟩) n (cp.val c) ∧ n ≤ cp.val c
  | .nilm, x => x = .map none
  | .mp b, x => ∃ r c, ρ b = some (r, c) ∧ x = .map (some r)
  | .fn f fi ca, x => ∃ xs ys : List Value, x = .func f xs.toArray ys.toArray ∧ RelL ρ fi xs ∧ RelL ρ ca ys
  | .nilf, x => x = .nilFunc
  | .nili, x => x = .nilIface
  | .yld b, x => ∃ r c, ρ b = some (r, c) ∧ x = .func (.yield r) #[] #[]
  | .ifc t v, x => ∃ y, x = .iface t y ∧ RelV ρ v y
  | .agg l, x => ∃ xs : List Value, x = .agg xs.toArray ∧ RelL ρ l xs
  | .tup l, x => ∃ xs : List Value, x = .tuple xs.toArray ∧ RelL ρ l xs
def RelL (ρ : Rho) : List V → List Value → Prop
  | [], xs => xs = []
  | v :: vs, xs => ∃ x ys, xs = x :: ys ∧ RelV ρ v x ∧ RelL ρ vs ys
end

def Ext (ρ ρ' : Rho) : Prop := (∀ i p, ρ i = some p → ρ' i = some p) ∧ ρ'.hole = ρ.hole
theorem Ext.refl (ρ : Rho) : Ext ρ ρ := ⟨fun _ _ h => h, rfl⟩
theorem Ext.trans {a b c : Rho} (h : Ext a b) (k : Ext b c) : Ext a c := ⟨fun i p e => k.1 i p (h.1 i p e), k.2.trans h.2⟩

mutual
theorem RelV.monoF {ρ ρ' : Rho} (hx : ∀ i p, ρ i = some p → ρ' i = some p) : ∀ (v : V) (x : Value), RelV ρ v x → RelV ρ' v x
  | .bool _, _, h => by simpa [RelV] using h
  | .int _ _, _, h => by simpa [RelV] using h
  | .str _, _, h => by simpa [RelV] using h
  | .nilp, _, h => by simpa [RelV] using h
  | .ptr b o, _, h => by obtain ⟨r, c, h1, h2⟩ := (by simpa only [RelV] using h); rw [RelV]; exact ⟨r, c, hx _ _ h1, h2⟩
  | .pin b o, _, h => by obtain ⟨r, c, h1, h2⟩ := (by simpa only [RelV] using h); rw [RelV]; exact ⟨r, c, hx _ _ h1, h2⟩
  | .nils, _, h => by simpa [RelV] using h
  | .sl _ _ _ _, _, h => by obtain ⟨r, c, h1, h2, h3⟩ := (by simpa only [RelV] using h); rw [RelV]; exact ⟨r, c, hx _ _ h1, h2, h3⟩
  | .nilm, _, h => by simpa [RelV] using h
  | .mp _, _, h => by obtain ⟨r, c, h1, h2⟩ := (by simpa only [RelV] using h); rw [RelV]; exact ⟨r, c, hx _ _ h1, h2⟩
  | .fn f fi ca, _, h => by
    rw [RelV] at h ⊢
    obtain ⟨xs, ys, h1, h2, h3⟩ := h
    exact ⟨xs, ys, h1, RelL.monoF hx fi xs h2, RelL.monoF hx ca ys h3⟩
  | .nilf, _, h => by simpa [RelV] using h
  | .nili, _, h => by simpa [RelV] using h
  | .yld b, _, h => by obtain ⟨r, c, h1, h2⟩ := (by simpa only [RelV] using h); rw [RelV]; exact ⟨r, c, hx _ _ h1, h2⟩
  | .ifc t v, _, h => by
    rw [RelV] at h ⊢
    obtain ⟨y, h1, h2⟩ := h
    exact ⟨y, h1, RelV.monoF hx v y h2⟩
  | .agg l, _, h => by
    rw [RelV] at h ⊢
    obtain ⟨y, h1, h2⟩ := h
    exact ⟨y, h1, RelL.monoF hx l y h2⟩
  | .tup l, _, h => by
    rw [RelV] at h ⊢
    obtain ⟨y, h1, h2⟩ := h
    exact ⟨y, h1, RelL.monoF hx l y h2⟩
theorem RelL.monoF {ρ ρ' : Rho} (hx : ∀ i p, ρ i = some p → ρ' i = some p) : ∀ (v : List V) (x : List Value), RelL ρ v x → RelL ρ' v x
  | [], _, h => by simpa [RelL] using h
  | v :: vs, _, h => by
    rw [RelL] at h ⊢
    obtain ⟨x, ys, h1, h2, h3⟩ := h
    exact ⟨x, ys, h1, RelV.monoF hx v x h2, RelL.monoF hx vs ys h3⟩
end
theorem RelV.mono {ρ ρ' : Rho} (hx : Ext ρ ρ') (v : V) (x : Value) (h : RelV ρ v x) : RelV ρ' v x := RelV.monoF hx.1 v x h
theorem RelL.mono {ρ ρ' : Rho} (hx : Ext ρ ρ') (v : List V) (x : List Value) (h : RelL ρ v x) : RelL ρ' v x := RelL.monoF hx.1 v x h
theorem RelL.length {ρ : Rho} : ∀ {v : List V} {x : List Value}, RelL ρ v x → v.length = x.length
  | [], _, h => by rw [RelL] at h; subst h; rfl
  | v :: vs, _, h => by
    rw [RelL] at h
    obtain ⟨x, ys, rfl, _, h3⟩ := h
    simp [h3.length]
theorem RelL.get {ρ : Rho} : ∀ {v : List V} {x : List Value}, RelL ρ v x → ∀ {i : Nat} {a : V}, v[i]? = some a → ∃ y, x[i]? = some y ∧ RelV ρ a y
  | [], _, _, i, a, h => by simp at h
  | v :: vs, _, h, i, a, hi => by
    rw [RelL] at h
    obtain ⟨x, ys, rfl, h2, h3⟩ := h
    cases i with
    | zero => simp at hi; subst hi; exact ⟨x, by simp, h2⟩
    | succ i => simp at hi; obtain ⟨y, h4, h5⟩ := h3.get hi; exact ⟨y, by simpa using h4, h5⟩
theorem RelL.of_get {ρ : Rho} : ∀ {v : List V} {x : List Value}, v.length = x.length → (∀ (i : Nat) (a : V) (y : Value), v[i]? = some a → x[i]? = some y → RelV ρ a y) → RelL ρ v x
  | [], x, hl, _ => by rw [RelL]; exact List.eq_nil_of_length_eq_zero (by simpa using hl.symm)
  | v :: vs, [], hl, _ => by simp at hl
  | v :: vs, x :: xs, hl, h => by
    rw [RelL]
    exact ⟨x, xs, rfl, h 0 v x (by simp) (by simp), RelL.of_get (by simpa using hl) fun i a y h1 h2 => h (i + 1) a y (by simpa using h1) (by simpa using h2)⟩
theorem RelL.append {ρ : Rho} : ∀ {v v' : List V} {x x' : List Value}, RelL ρ v x → RelL ρ v' x' → RelL ρ (v ++ v') (x ++ x')
  | [], _, _, _, h, h' => by rw [RelL] at h; subst h; exact h'
  | v :: vs, _, _, _, h, h' => by
    rw [RelL] at h
    obtain ⟨x, ys, rfl, h2, h3⟩ := h
    rw [List.cons_append, List.cons_append, RelL]
    exact ⟨x, _, rfl, h2, h3.append h'⟩
theorem RelL.cons {ρ : Rho} {v : V} {vs : List V} {x : Value} {xs : List Value} (h : RelV ρ v x) (h' : RelL ρ vs xs) : RelL ρ (v :: vs) (x :: xs) := by
  rw [RelL]; exact ⟨x, xs, rfl, h, h'⟩
theorem RelL.nil {ρ : Rho} : RelL ρ [] [] := by rw [RelL]
theorem RelL.one {ρ : Rho} {v : V} {x : Value} (h : RelV ρ v x) : RelL ρ [v] [x] := .cons h .nil
end Go.CE
/-
  CLOSED EVALUATION, 2: memory, and what it stands for in a world.
-/
noncomputable section
namespace Go.CE
theorem heap_setCell_ne (w : World) (a : Addr) (v : Value) (k : Nat) (h : k ≠ a.block) : (w.setCell a v).heap[k]? = w.heap[k]? := by
  simp only [World.setCell, Array.getElem?_modify]
  rw [if_neg (Ne.symm h)]
theorem heap_alloc_lt (w : World) (o : Obj) (k : Nat) (h : k < w.heap.size) : (w.alloc o).heap[k]? = w.heap[k]? := by
  simp only [World.alloc, Array.getElem?_push]
  rw [if_neg (by omega)]

/-- Blocks that hold no cells: the calls that a range over a function has deferred (none here), and such a range. -/
structure EV where
  k : IntKind
  n : Int
  born : Nat
  v : V
inductive OB where
  | dfr (here : Bool)
  | mp (es : List EV) (clock : Nat)
  | it (s : List UInt8) (pos : Nat)
  | loop (st : LoopState) (pe : Option Code) (fn : FuncId) (nt : Nat) (tm : Tr V) (ps : Array Tmp) (as bd : Code) (d : Nat)
inductive Blk where
  | row (wr : Bool) (t : TypeId) (n : Nat) (c : Tr V)
  | gro (t : TypeId) (es : Nat) (n : Nat) (c : Tr V)
  | ints (k : IntKind) (n : Nat) (c : Tr Int)
  | oth (o : OB)
structure Mem where
  nx : Nat
  t : Tr Blk

/-- Blocks that are kept; how many package variables there are. -/
structure Fx where
  k : Nat → Prop
  g : Nat
def intAt (c : Tr Int) (o : Nat) : Int := match c.get o with
  | some x => x
  | none => 0
def Cells (ρ : Rho) (cs : Tr V) (xs : Array Value) : Prop := ∀ i v, cs.get i = some v → ∃ x, xs[i]? = some x ∧ RelV ρ v x
def Unfro (fr : Nat × Nat) (n : Nat) : Prop := ∀ i, i < n → ¬ (fr.1 ≤ i ∧ i < fr.2)
def undefV : V := .tup []
def tmGet (tm : Tr V) (t : Nat) : V := match tm.get t with
  | some v => v
  | none => undefV
structure TmRel (ρ : Rho) (nt : Nat) (tm : Tr V) (tmps : Array Value) : Prop where
  size : tmps.size = nt
  out : ∀ i, tmps.size ≤ i → tm.get i = none
  get : ∀ i x, tmps[i]? = some x → RelV ρ (tmGet tm i) x
theorem TmRel.monoF {ρ ρ' : Rho} (hx : ∀ i p, ρ i = some p → ρ' i = some p) {nt tm tmps} (h : TmRel ρ nt tm tmps) : TmRel ρ' nt tm tmps := ⟨h.size, h.out, fun i x hi => RelV.monoF hx _ _ (h.get i x hi)⟩
theorem TmRel.mono {ρ ρ' : Rho} (hx : Ext ρ ρ') {nt tm tmps} (h : TmRel ρ nt tm tmps) : TmRel ρ' nt tm tmps := h.monoF hx.1
def EsRel (ρ : Rho) : List EV → List MapEntry → Prop
  | [], xs => xs = []
  | e :: es, xs => ∃ y ys, xs = y :: ys ∧ y.key = .int e.k e.n ∧ y.born = e.born ∧ RelV ρ e.v y.val ∧ EsRel ρ es ys
theorem EsRel.monoF {ρ ρ' : Rho} (hx : ∀ i p, ρ i = some p → ρ' i = some p) : ∀ {es xs}, EsRel ρ es xs → EsRel ρ' es xs
  | [], _, h => h
  | _ :: _, _, h => by obtain ⟨y, ys, h1, h2, h3, h4, h5⟩ := h; exact ⟨y, ys, h1, h2, h3, RelV.monoF hx _ _ h4, h5.monoF hx⟩
def OthRel (ρ : Rho) : OB → Obj → Prop
  | .it s pos, o => o = .stringIter ⟨s.toArray⟩ pos
  | .mp es ck, o => ∃ xs : List MapEntry, o = .map xs.toArray ck ∧ EsRel ρ es xs
  | .dfr here, o => o = .deferred (bif here then some [] else none)
  | .loop st pe fn nt tm ps as bd d, o => ∃ tmps rd cd, o = .loop { state := st, pending := pe, fn := fn, tmps := tmps, params := ps, assign := as, body := bd, defers := rd } ∧ TmRel ρ nt tm tmps ∧ ρ d = some (rd, cd)
theorem OthRel.monoF {ρ ρ' : Rho} (hx : ∀ i p, ρ i = some p → ρ' i = some p) : ∀ {b : OB} {o : Obj}, OthRel ρ b o → OthRel ρ' b o
  | .dfr _, _, h => h
  | .mp _ _, _, h => by obtain ⟨xs, h1, h2⟩ := h; exact ⟨xs, h1, h2.monoF hx⟩
  | .it _ _, _, h => h
  | .loop _ _ _ _ _ _ _ _ _, _, h => by obtain ⟨t, rd, cd, h1, h2, h3⟩ := h; exact ⟨t, rd, cd, h1, h2.monoF hx, hx _ _ h3⟩
def BlkRel (F : Fx) (ρ : Rho) (w : World) (r c : Nat) : Blk → Prop
  | .row wr t n cs => (wr = true → ¬ F.k r ∧ F.g ≤ r) ∧ (wr = false → r < F.g) ∧ ∃ xs fr, w.heap[r]? = some (.cells xs t fr) ∧ xs.size = n ∧ Cells ρ cs xs ∧ (wr = true → Unfro fr xs.size)
  | .gro t es n cs => (¬ F.k r ∧ F.g ≤ r) ∧ ∃ xs fr, w.heap[r]? = some (.cells xs t fr) ∧ xs.size = c * es ∧ n ≤ xs.size ∧ Cells ρ cs xs ∧ Unfro fr xs.size
  | .ints k n cs => (¬ F.k r ∧ F.g ≤ r) ∧ ∃ xs t fr, w.heap[r]? = some (.cells xs t fr) ∧ xs.size = n ∧ (∀ i, i < n → xs[i]? = some (.int k (intAt cs i))) ∧ Unfro fr xs.size ∧ n = c
  | .oth o => (¬ F.k r ∧ F.g ≤ r) ∧ ∃ x, w.heap[r]? = some x ∧ OthRel ρ o x
theorem BlkRel.lt {F ρ w r c} : ∀ {b : Blk}, BlkRel F ρ w r c b → r < w.heap.size
  | .row _ _ _ _, h => by obtain ⟨_, _, xs, fr, h, _⟩ := h; exact (Array.getElem?_eq_some_iff.1 h).1
  | .gro _ _ _ _, h => by obtain ⟨_, xs, fr, h, _⟩ := h; exact (Array.getElem?_eq_some_iff.1 h).1
  | .ints _ _ _, h => by obtain ⟨_, xs, t, fr, h, _⟩ := h; exact (Array.getElem?_eq_some_iff.1 h).1
  | .oth _, h => by obtain ⟨_, x, h, _⟩ := h; exact (Array.getElem?_eq_some_iff.1 h).1
theorem Cells.monoF {ρ ρ' : Rho} (hx : ∀ i p, ρ i = some p → ρ' i = some p) {cs xs} (h : Cells ρ cs xs) : Cells ρ' cs xs := fun i v hv => by
  obtain ⟨x, h1, h2⟩ := h i v hv
  exact ⟨x, h1, RelV.monoF hx _ _ h2⟩
theorem Cells.mono {ρ ρ' : Rho} (hx : Ext ρ ρ') {cs xs} (h : Cells ρ cs xs) : Cells ρ' cs xs := h.monoF hx.1
theorem BlkRel.moveF {F : Fx} {ρ ρ' : Rho} {w w' : World} {r c : Nat} (hx : ∀ i p, ρ i = some p → ρ' i = some p) (hb : w'.heap[r]? = w.heap[r]?) : ∀ {b : Blk}, BlkRel F ρ w r c b → BlkRel F ρ' w' r c b
  | .row _ _ _ _, h => by obtain ⟨h0, h0', xs, fr, h1, h2, h3, h4⟩ := h; exact ⟨h0, h0', xs, fr, hb.trans h1, h2, h3.monoF hx, h4⟩
  | .gro _ _ _ _, h => by obtain ⟨h0, xs, fr, h1, h2, h3, h4, h5⟩ := h; exact ⟨h0, xs, fr, hb.trans h1, h2, h3, h4.monoF hx, h5⟩
  | .ints _ _ _, h => by obtain ⟨h0, xs, t, fr, h1, h2, h3, h4⟩ := h; exact ⟨h0, xs, t, fr, hb.trans h1, h2, h3, h4⟩
  | .oth _, h => by obtain ⟨h0, x, h1, h2⟩ := h; exact ⟨h0, x, hb.trans h1, h2.monoF hx⟩
theorem BlkRel.move {F : Fx} {ρ ρ' : Rho} {w w' : World} {r c : Nat} (hx : Ext ρ ρ') (hb : w'.heap[r]? = w.heap[r]?) {b : Blk} (h : BlkRel F ρ w r c b) : BlkRel F ρ' w' r c b := h.moveF hx.1 hb

/-- The memory m stands for what lies in w (by ρ); the blocks of F are as they were in w0. -/
structure RM (F : Fx) (w0 : World) (ρ : Rho) (m : Mem) (w : World) : Prop where
  blk : ∀ i b, m.t.get i = some b → ∃ r c, ρ i = some (r, c) ∧ BlkRel F ρ w r c b
  inj : ∀ i j bi bj r c c', m.t.get i = some bi → m.t.get j = some bj → ρ i = some (r, c) → ρ j = some (r, c') → i = j
  fresh : ∀ i, m.nx ≤ i → ρ i = none ∧ ¬ ρ.hole i
  fn : ∀ k, F.k k → k < w0.heap.size
  gsz : F.g ≤ w0.heap.size
  size : w0.heap.size ≤ w.heap.size
  keep : ∀ k, F.k k → w.heap[k]? = w0.heap[k]?
  os : w.os = w0.os
  tape : w.tape = w0.tape
  output : w.output = w0.output

theorem RM.lt {F w0 ρ m w} (h : RM F w0 ρ m w) {i b r c} (hi : m.t.get i = some b) (hr : ρ i = some (r, c)) : r < w.heap.size := by
  obtain ⟨r', c', h1, h2⟩ := h.blk i b hi
  rw [h1] at hr; cases hr; exact h2.lt
theorem RM.live {F w0 ρ m w} (h : RM F w0 ρ m w) {i b} (hi : m.t.get i = some b) : i < m.nx := by
  obtain ⟨r', c', h1, h2⟩ := h.blk i b hi
  rcases Nat.lt_or_ge i m.nx with h3 | h3
  · exact h3
  · rw [(h.fresh i h3).1] at h1; cases h1
theorem RM.at {F w0 ρ m w} (h : RM F w0 ρ m w) {i b r c} (hi : m.t.get i = some b) (hr : ρ i = some (r, c)) : BlkRel F ρ w r c b := by
  obtain ⟨r', c', h1, h2⟩ := h.blk i b hi
  rw [h1] at hr; cases hr; exact h2

/-! reading a cell -/
def Mem.cell? (m : Mem) (b o : Nat) : Option V :=
  match m.t.get b with
  | some (.row _ _ _ cs) => cs.get o
  | some (.gro _ _ _ cs) => cs.get o
  | some (.ints k n cs) => match Nat.blt o n with
    | true => some (.int k (intAt cs o))
    | false => none
  | some (.oth _) => none
  | none => none
theorem blt_lt' {a b : Nat} (h : Nat.blt a b = true) : a < b := by
  have : Nat.ble (a + 1) b = true := h
  have := Nat.le_of_ble_eq_true this
  omega
theorem RM.cell {F w0 ρ m w} (h : RM F w0 ρ m w) {b o r c v} (hr : ρ b = some (r, c)) (hc : m.cell? b o = some v) : ∃ x, w.cell? ⟨r, o, none⟩ = some x ∧ RelV ρ v x := by
  unfold Mem.cell? at hc
  split at hc
  · rename_i wr t n cs hb
    obtain ⟨_, _, xs, fr, h1, h2, h3, h4⟩ := h.at hb hr
    obtain ⟨x, h5, h6⟩ := h3 _ _ hc
    exact ⟨x, by simp [World.cell?, h1, h5], h6⟩
  · rename_i t es n cs hb
    obtain ⟨_, xs, fr, h1, h2, _, h3, h4⟩ := h.at hb hr
    obtain ⟨x, h5, h6⟩ := h3 _ _ hc
    exact ⟨x, by simp [World.cell?, h1, h5], h6⟩
  · rename_i k n cs hb
    split at hc
    · rename_i hlt
      cases hc
      obtain ⟨_, xs, t, fr, h1, h2, h3, h4⟩ := h.at hb hr
      exact ⟨.int k (intAt cs o), by simp [World.cell?, h1, h3 o (blt_lt' hlt)], by rw [RelV]⟩
    · cases hc
  · cases hc
  · cases hc

/-- A cell that is known to be there. -/
def Mem.cellP? (m : Mem) (b o : Nat) : Option V :=
  match m.t.get b with
  | some (.ints k _ cs) => some (.int k (intAt cs o))
  | _ => m.cell? b o
theorem RM.cellP {F w0 ρ m w} (h : RM F w0 ρ m w) {b o r c v} (hr : ρ b = some (r, c)) (ho : o < c) (hc : m.cellP? b o = some v) : ∃ x, w.cell? ⟨r, o, none⟩ = some x ∧ RelV ρ v x := by
  unfold Mem.cellP? at hc
  split at hc
  · rename_i k n cs hb
    cases hc
    obtain ⟨_, xs, t, fr, h1, h2, h3, h4, rfl⟩ := h.at hb hr
    exact ⟨.int k (intAt cs o), by simp [World.cell?, h1, h3 o ho], by rw [RelV]⟩
  · exact h.cell hr hc
/-! storing into a cell -/
def V.one : V → Bool
  | .agg _ => false
  | .tup _ => false
  | _ => true
theorem V.one_rel {ρ : Rho} {v : V} {x : Value} (h : RelV ρ v x) (h1 : v.one = true) : x.oneCell' = true := by
  cases v <;> simp only [RelV] at h <;> first
    | (simp [V.one] at h1; done)
    | (subst h; rfl)
    | (obtain ⟨_, _, _, rfl⟩ := h; rfl)
    | (obtain ⟨_, _, _, rfl, _⟩ := h; rfl)
    | (obtain ⟨_, _, rfl, _⟩ := h; rfl)
    | (obtain ⟨_, rfl, _⟩ := h; rfl)
def Mem.put (m : Mem) (b o : Nat) (v : V) : Option Mem :=
  match m.t.get b with
  | some (.row true t n cs) => match cs.get o with
    | some _ => some ⟨m.nx, m.t.set b (.row true t n (cs.set o v))⟩
    | none => none
  | some (.gro t es n cs) => match cs.get o with
    | some _ => some ⟨m.nx, m.t.set b (.gro t es n (cs.set o v))⟩
    | none => none
  | some (.ints k n cs) => match v with
    | .int k' x => match Nat.blt o n && decide (k' = k) with
      | true => some ⟨m.nx, m.t.set b (.ints k n (cs.set o x))⟩
      | false => none
    | _ => none
  | _ => none
theorem intAt_set (cs : Tr Int) (o i : Nat) (x : Int) : intAt (cs.set o x) i = if i = o then x else intAt cs i := by
  unfold intAt
  rw [Tr.get_set]
  by_cases h : i = o <;> simp [h]
theorem heap_setCell_at {w : World} {r o : Nat} {x : Value} {xs : Array Value} {t : TypeId} {fr : Nat × Nat} (h : w.heap[r]? = some (.cells xs t fr)) :
    (w.setCell ⟨r, o, none⟩ x).heap[r]? = some (.cells (xs.setIfInBounds o x) t fr) := by
  simp [World.setCell, Array.getElem?_modify, h]
theorem Cells.set {ρ : Rho} {cs : Tr V} {xs : Array Value} {o : Nat} {v : V} {x : Value} (h : Cells ρ cs xs) (ho : o < xs.size) (hv : RelV ρ v x) : Cells ρ (cs.set o v) (xs.setIfInBounds o x) := fun i u hu => by
  rw [Tr.get_set] at hu
  by_cases e : i = o
  · subst e
    rw [if_pos rfl] at hu; cases hu
    exact ⟨x, by simp [ho], hv⟩
  · rw [if_neg e] at hu
    obtain ⟨y, h1, h2⟩ := h i u hu
    exact ⟨y, by rw [Array.getElem?_setIfInBounds_ne (Ne.symm e)]; exact h1, h2⟩
theorem RM.put {F w0 ρ m w} (h : RM F w0 ρ m w) {b o r c v x m'} (hr : ρ b = some (r, c)) (hm : m.put b o v = some m') (hv : RelV ρ v x) :
    (∃ y, w.cell? ⟨r, o, none⟩ = some y) ∧ w.frozen? ⟨r, o, none⟩ = false ∧ RM F w0 ρ m' (w.setCell ⟨r, o, none⟩ x) := by
  have key : ∀ (b' : Blk) (bo : Blk) (xs : Array Value) (t : TypeId) (fr : Nat × Nat), m.t.get b = some bo → w.heap[r]? = some (.cells xs t fr) → ¬ F.k r →
      BlkRel F ρ (w.setCell ⟨r, o, none⟩ x) r c b' → m' = ⟨m.nx, m.t.set b b'⟩ → RM F w0 ρ m' (w.setCell ⟨r, o, none⟩ x) := by
    intro b' bo xs t fr hbo hh hF hb' he
    subst he
    refine ⟨fun i bi hi => ?_, fun i j bi bj r' c' c'' hi hj hri hrj => ?_, h.fresh, h.fn, h.gsz, by simpa using h.size, fun k hk => ?_, h.os, h.tape, h.output⟩
    · simp only [Tr.get_set] at hi
      by_cases e : i = b
      · subst e; rw [if_pos rfl] at hi; cases hi
        exact ⟨r, c, hr, hb'⟩
      · rw [if_neg e] at hi
        obtain ⟨r', c', h1, h2⟩ := h.blk i bi hi
        refine ⟨r', c', h1, h2.move (Ext.refl ρ) (heap_setCell_ne _ _ _ _ fun e' => ?_)⟩
        have e'' : r' = r := e'
        subst e''
        exact e (h.inj i b bi bo r' c' c hi hbo h1 hr)
    · simp only [Tr.get_set] at hi hj
      have gi : ∃ u, m.t.get i = some u := by
        by_cases e : i = b
        · exact ⟨bo, e ▸ hbo⟩
        · exact ⟨bi, by rw [if_neg e] at hi; exact hi⟩
      have gj : ∃ u, m.t.get j = some u := by
        by_cases e : j = b
        · exact ⟨bo, e ▸ hbo⟩
        · exact ⟨bj, by rw [if_neg e] at hj; exact hj⟩
      obtain ⟨u, hu⟩ := gi
      obtain ⟨u', hu'⟩ := gj
      exact h.inj i j u u' r' c' c'' hu hu' hri hrj
    · rw [heap_setCell_ne _ _ _ _ (fun e => hF (by have e' : k = r := e; exact e' ▸ hk))]
      exact h.keep k hk
  unfold Mem.put at hm
  split at hm
  · rename_i t n cs hb
    split at hm
    · rename_i u hu
      cases hm
      obtain ⟨h0, h0', xs, fr, h1, h2, h3, h4⟩ := h.at hb hr
      obtain ⟨y, h5, h6⟩ := h3 _ _ hu
      have hlt : o < xs.size := (Array.getElem?_eq_some_iff.1 h5).1
      refine ⟨⟨y, by simp [World.cell?, h1, h5]⟩, ?_, key _ _ xs t fr hb h1 (h0 rfl).1 ?_ rfl⟩
      · have := h4 rfl o hlt
        simp [World.frozen?, h1]; omega
      · exact ⟨h0, h0', _, fr, heap_setCell_at h1, by simpa using h2, h3.set hlt hv, fun hw => by simpa using h4 hw⟩
    · cases hm
  · rename_i t es n cs hb
    split at hm
    · rename_i u hu
      cases hm
      obtain ⟨h0, xs, fr, h1, h2, h2', h3, h4⟩ := h.at hb hr
      obtain ⟨y, h5, h6⟩ := h3 _ _ hu
      have hlt : o < xs.size := (Array.getElem?_eq_some_iff.1 h5).1
      refine ⟨⟨y, by simp [World.cell?, h1, h5]⟩, ?_, key _ _ xs t fr hb h1 h0.1 ?_ rfl⟩
      · have := h4 o hlt
        simp [World.frozen?, h1]; omega
      · exact ⟨h0, _, fr, heap_setCell_at h1, by simpa using h2, by simpa using h2', h3.set hlt hv, by simpa using h4⟩
    · cases hm
  · rename_i k n cs hb
    split at hm
    · rename_i k' x0
      split at hm
      · rename_i hq
        cases hm
        simp only [Bool.and_eq_true, decide_eq_true_eq] at hq
        obtain ⟨hq1, rfl⟩ := hq
        have hlt := blt_lt' hq1
        obtain ⟨h0, xs, t, fr, h1, h2, h3, h4, h5⟩ := h.at hb hr
        rw [RelV] at hv
        subst hv
        refine ⟨⟨.int k' (intAt cs o), by simp [World.cell?, h1, h3 o hlt]⟩, ?_, key _ _ xs t fr hb h1 h0.1 ?_ rfl⟩
        · have := h4 o (by omega)
          simp [World.frozen?, h1]; omega
        · refine ⟨h0, _, t, fr, heap_setCell_at h1, by simpa using h2, fun i hi => ?_, by simpa using h4, h5⟩
          rw [intAt_set]
          by_cases e : i = o
          · subst e
            rw [if_pos rfl, Array.getElem?_setIfInBounds_self_of_lt (by omega)]
          · rw [if_neg e, Array.getElem?_setIfInBounds_ne (Ne.symm e)]
            exact h3 i hi
      · cases hm
    · cases hm
  · cases hm

/-- A block without cells is made another one. -/
def Mem.setO (m : Mem) (b : Nat) (o : OB) : Mem := ⟨m.nx, m.t.set b (.oth o)⟩
theorem RM.setO {F w0 ρ m w} (h : RM F w0 ρ m w) {b r c : Nat} {o o' : OB} {x : Obj} (hb : m.t.get b = some (.oth o)) (hr : ρ b = some (r, c)) (hx : OthRel ρ o' x) : RM F w0 ρ (m.setO b o') (w.putObj r x) := by
  have hlt := h.lt hb hr
  have hat : BlkRel F ρ w r c (.oth o) := h.at hb hr
  obtain ⟨hF, _⟩ := hat
  refine ⟨fun i bi hi => ?_, fun i j bi bj r' c' c'' hi hj hri hrj => ?_, h.fresh, h.fn, h.gsz, by simpa [World.putObj] using h.size, fun k hk => ?_, h.os, h.tape, h.output⟩
  · simp only [Mem.setO, Tr.get_set] at hi
    by_cases e : i = b
    · subst e; rw [if_pos rfl] at hi; cases hi
      exact ⟨r, c, hr, hF, x, World.putObj_heap_same hlt, hx⟩
    · rw [if_neg e] at hi
      obtain ⟨r', c', h1, h2⟩ := h.blk i bi hi
      exact ⟨r', c', h1, h2.move (Ext.refl ρ) (World.putObj_heap_other (r := r) (k := r') fun e' => e (h.inj i b bi _ r' c' c hi hb h1 (by rw [e']; exact hr)))⟩
  · simp only [Mem.setO, Tr.get_set] at hi hj
    have gi : ∃ u, m.t.get i = some u := by
      by_cases e : i = b
      · exact ⟨_, e ▸ hb⟩
      · exact ⟨bi, by rw [if_neg e] at hi; exact hi⟩
    have gj : ∃ u, m.t.get j = some u := by
      by_cases e : j = b
      · exact ⟨_, e ▸ hb⟩
      · exact ⟨bj, by rw [if_neg e] at hj; exact hj⟩
    obtain ⟨u, hu⟩ := gi
    obtain ⟨u', hu'⟩ := gj
    exact h.inj i j u u' r' c' c'' hu hu' hri hrj
  · rw [World.putObj_heap_other (r := r) (k := k) (fun e => hF.1 (by rw [← e]; exact hk))]
    exact h.keep k hk

def Mem.putP (m : Mem) (b o : Nat) (v : V) : Option Mem :=
  match m.t.get b with
  | some (.ints k n cs) => match v with
    | .int k' x => match decide (k' = k) with
      | true => some ⟨m.nx, m.t.set b (.ints k n (cs.set o x))⟩
      | false => none
    | _ => none
  | _ => m.put b o v
theorem RM.putP {F w0 ρ m w} (h : RM F w0 ρ m w) {b o r c v x m'} (hr : ρ b = some (r, c)) (ho : o < c) (hm : m.putP b o v = some m') (hv : RelV ρ v x) :
    (∃ y, w.cell? ⟨r, o, none⟩ = some y) ∧ w.frozen? ⟨r, o, none⟩ = false ∧ RM F w0 ρ m' (w.setCell ⟨r, o, none⟩ x) := by
  unfold Mem.putP at hm
  split at hm
  · rename_i k n cs hb
    have hn : o < n := by
      obtain ⟨_, _, _, _, _, _, _, _, rfl⟩ := h.at hb hr
      exact ho
    split at hm
    · rename_i k' x0
      split at hm
      · rename_i hq
        cases hm
        have hlt : Nat.blt o n = true := Nat.ble_eq_true_of_le hn
        exact h.put hr (v := .int k' x0) (by simp only [Mem.put, hb, hlt, hq, Bool.and_self]) hv
      · cases hm
    · cases hm
  · exact h.put hr hm hv
/-! new blocks -/
def Rho.put (ρ : Rho) (n : Nat) (r c : Nat) : Rho := ⟨fun i => if i = n then some (r, c) else ρ i, fun i => ρ.hole i ∧ i ≠ n, fun i h => by
  show (if i = n then some (r, c) else ρ i) = none
  rw [if_neg h.2]; exact ρ.hok i h.1⟩
theorem Rho.put_at {ρ : Rho} {n r c i : Nat} : (ρ.put n r c) i = if i = n then some (r, c) else ρ i := rfl
theorem Rho.put_ext {ρ : Rho} {n r c : Nat} (h : ρ n = none ∧ ¬ ρ.hole n) : Ext ρ (ρ.put n r c) := ⟨fun i p hi => by
  rw [Rho.put_at]
  by_cases e : i = n
  · subst e; rw [h.1] at hi; cases hi
  · rw [if_neg e]; exact hi, by
  funext i
  refine propext ⟨fun hh => hh.1, fun hh => ⟨hh, fun e => h.2 (e ▸ hh)⟩⟩⟩
theorem Rho.put_self {ρ : Rho} {n r c : Nat} : (ρ.put n r c) n = some (r, c) := by rw [Rho.put_at, if_pos rfl]
def Mem.new (m : Mem) (b : Blk) : Mem := ⟨Nat.succ m.nx, m.t.set m.nx b⟩
theorem RM.new {F w0 ρ m w} (h : RM F w0 ρ m w) {b : Blk} {c : Nat} {w' : World} (hs : w'.heap.size = w.heap.size + 1) (hold : ∀ k, k < w.heap.size → w'.heap[k]? = w.heap[k]?)
    (ho : w'.os = w.os) (ht : w'.tape = w.tape) (hp : w'.output = w.output)
    (hb : BlkRel F (ρ.put m.nx w.heap.size c) w' w.heap.size c b) : Ext ρ (ρ.put m.nx w.heap.size c) ∧ RM F w0 (ρ.put m.nx w.heap.size c) (m.new b) w' := by
  have hx : Ext ρ (ρ.put m.nx w.heap.size c) := Rho.put_ext (h.fresh _ (Nat.le_refl _))
  refine ⟨hx, fun i bi hi => ?_, fun i j bi bj r c' c'' hi hj hri hrj => ?_, fun i hi => ?_, h.fn, h.gsz, by have := h.size; omega, fun k hk => ?_, ho.trans h.os, ht.trans h.tape, hp.trans h.output⟩
  · simp only [Mem.new, Tr.get_set] at hi
    by_cases e : i = m.nx
    · subst e; rw [if_pos rfl] at hi; cases hi
      exact ⟨_, _, Rho.put_self, hb⟩
    · rw [if_neg e] at hi
      obtain ⟨r', c', h1, h2⟩ := h.blk i bi hi
      exact ⟨r', c', hx.1 _ _ h1, h2.move hx (hold _ h2.lt)⟩
  · simp only [Mem.new, Tr.get_set] at hi hj
    rw [Rho.put_at] at hri hrj
    by_cases e : i = m.nx
    · by_cases e' : j = m.nx
      · omega
      · rw [if_neg e'] at hj hrj
        rw [if_pos e] at hri
        cases hri
        exact absurd (h.lt hj hrj) (by omega)
    · rw [if_neg e] at hi hri
      by_cases e' : j = m.nx
      · rw [if_pos e'] at hrj
        cases hrj
        exact absurd (h.lt hi hri) (by omega)
      · rw [if_neg e'] at hj hrj
        exact h.inj i j bi bj r c' c'' hi hj hri hrj
  · simp only [Mem.new] at hi
    rw [Rho.put_at, if_neg (by omega)]
    have := h.fresh i (by omega)
    exact ⟨this.1, fun hh => this.2 hh.1⟩
  · rw [hold k (by have := h.fn k hk; have := h.size; omega)]
    exact h.keep k hk
theorem Cells.fill {ρ : Rho} {vs : List V} {xs : List Value} (h : RelL ρ vs xs) (rest : List Value) : Cells ρ (Tr.fill vs 0 .nil) (xs ++ rest).toArray := fun i v hv => by
  rw [Tr.get_fill] at hv
  split at hv
  · rw [Nat.sub_zero] at hv
    obtain ⟨y, h1, h2⟩ := h.get hv
    exact ⟨y, by rw [List.getElem?_toArray, List.getElem?_append_left (List.getElem?_eq_some_iff.1 h1).1]; exact h1, h2⟩
  · rw [Tr.get_nil] at hv; cases hv
/-- A new row of just these cells. -/
theorem RM.newRow {F w0 ρ m w} (h : RM F w0 ρ m w) {vs : List V} {xs : List Value} (t : TypeId) (hv : RelL ρ vs xs) :
    ∃ ρ', Ext ρ ρ' ∧ RelV ρ' (.ptr m.nx 0) (.pointer (some ⟨w.heap.size, 0, none⟩)) ∧ ρ' m.nx = some (w.heap.size, 0) ∧
      RM F w0 ρ' (m.new (.row true t vs.length (Tr.fill vs 0 .nil))) (w.alloc (.cells xs.toArray t)) := by
  have hx : Ext ρ (ρ.put m.nx w.heap.size 0) := Rho.put_ext (h.fresh _ (Nat.le_refl _))
  obtain ⟨_, h2⟩ := h.new (b := .row true t vs.length (Tr.fill vs 0 .nil)) (c := 0) (w' := w.alloc (.cells xs.toArray t)) (by simp) (fun k hk => heap_alloc_lt w _ k hk) rfl rfl rfl
    ⟨fun _ => ⟨fun hF => absurd (h.fn _ hF) (by have := h.size; omega), by have := h.size; have := h.gsz; omega⟩, (fun h => by cases h), xs.toArray, (0, 0), Array.getElem?_push_size, by simpa using hv.length.symm,
      by have := Cells.fill (RelL.mono hx _ _ hv) []; simpa using this, fun _ i _ => by simp⟩
  exact ⟨_, hx, by rw [RelV]; exact ⟨_, _, Rho.put_self, rfl⟩, Rho.put_self, h2⟩
/-- A new block without cells. -/
theorem RM.newO {F w0 ρ m w} (h : RM F w0 ρ m w) {o : OB} {x : Obj} (hx : OthRel ρ o x) : ∃ ρ', Ext ρ ρ' ∧ ρ' m.nx = some (w.heap.size, 0) ∧ RM F w0 ρ' (m.new (.oth o)) (w.alloc x) := by
  have he : Ext ρ (ρ.put m.nx w.heap.size 0) := Rho.put_ext (h.fresh _ (Nat.le_refl _))
  obtain ⟨_, h2⟩ := h.new (b := .oth o) (c := 0) (w' := w.alloc x) (by simp) (fun k hk => heap_alloc_lt w _ k hk) rfl rfl rfl
    ⟨⟨fun hF => absurd (h.fn _ hF) (by have := h.size; omega), by have := h.size; have := h.gsz; omega⟩, x, Array.getElem?_push_size, hx.monoF he.1⟩
  exact ⟨_, he, Rho.put_self, h2⟩
theorem RM.drew {F w0 ρ m w} (h : RM F w0 ρ m w) : RM F w0 ρ m w.drew := ⟨fun i b hi => by
    obtain ⟨r, c, h1, h2⟩ := h.blk i b hi
    exact ⟨r, c, h1, h2.move (Ext.refl ρ) rfl⟩, h.inj, h.fresh, h.fn, h.gsz, h.size, h.keep, h.os, h.tape, h.output⟩
/-- A block is forgotten. -/
theorem RM.del {F w0 ρ m w} (h : RM F w0 ρ m w) (k : Nat) : RM F w0 ρ ⟨m.nx, m.t.del k⟩ w := by
  have g : ∀ i b, (m.t.del k).get i = some b → m.t.get i = some b := fun i b hi => by
    rw [Tr.get_del] at hi; split at hi
    · cases hi
    · exact hi
  exact ⟨fun i b hi => h.blk i b (g i b hi), fun i j bi bj r c c' hi hj => h.inj i j bi bj r c c' (g _ _ hi) (g _ _ hj), h.fresh, h.fn, h.gsz, h.size, h.keep, h.os, h.tape, h.output⟩
end Go.CE
end
