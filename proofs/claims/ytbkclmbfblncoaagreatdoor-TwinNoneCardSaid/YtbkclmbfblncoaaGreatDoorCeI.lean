/-
  CLOSED EVALUATION, 9: one operation.
-/
import Derived.Test.YtbkclmbfblncoaaGreatDoorCeHn
import Derived.Laws.LoneSync
noncomputable section
namespace Go.CE
open Go
set_option linter.unusedSimpArgs false
set_option linter.unusedVariables false

def evParts (ev : Operand → Option V) : List (Nat × Operand) → Option (List (Nat × V))
  | [] => some []
  | (i, x) :: ps => match ev x with
    | none => none
    | some v => match evParts ev ps with
      | none => none
      | some vs => some ((i, v) :: vs)
theorem evParts_rel {ρ : Rho} {ev : Operand → Option V} {r : Operand → Value} (h : ∀ x v, ev x = some v → RelV ρ v (r x)) : ∀ (ps : List (Nat × Operand)) (vs : List (Nat × V)), evParts ev ps = some vs → RelP ρ vs (ps.map fun (i, x) => (i, r x))
  | [], vs, e => by rw [evParts] at e; cases e; rw [RelP]; rfl
  | (i, x) :: ps, vs, e => by
    rw [evParts] at e
    split at e
    · cases e
    · rename_i v hv
      split at e
      · cases e
      · rename_i vs' hvs
        cases e
        rw [RelP]
        exact ⟨r x, _, rfl, h x v hv, evParts_rel h ps vs' hvs⟩
theorem mapO_rel2 {ρ : Rho} {ev : Operand → Option V} {r : Operand → Value} (h : ∀ x v, ev x = some v → RelV ρ v (r x)) : ∀ (xs : List Operand) (vs : List V), mapO ev xs = some vs → RelL ρ vs (xs.map r)
  | [], vs, e => by rw [mapO_nil] at e; cases e; exact .nil
  | x :: xs, vs, e => by
    rw [mapO_cons] at e
    obtain ⟨y, ys, hy, hys, rfl⟩ := consO_some e
    exact .cons (h x y hy) (mapO_rel2 h xs ys hys)
def optV (ev : Operand → Option V) : Option Operand → Option (Option V)
  | none => some none
  | some x => match ev x with
    | some v => some (some v)
    | none => none
theorem optV_rel {ρ : Rho} {ev : Operand → Option V} {r : Operand → Value} (h : ∀ x v, ev x = some v → RelV ρ v (r x)) {o : Option Operand} {v} (e : optV ev o = some v) : RelO ρ v (o.map r) := by
  cases o with
  | none => cases e; rw [RelO]; rfl
  | some x =>
    rw [optV] at e
    split at e
    · rename_i u hu
      cases e
      rw [RelO]
      exact ⟨r x, rfl, h x u hu⟩
    · cases e
theorem undef_rel {ρ : Rho} : RelV ρ undefV undef := by rw [undefV, RelV]; exact ⟨[], rfl, .nil⟩

/-- A value and memory, where the memory stays. -/
def keepM (m : Mem) : Option V → Option (V × Mem)
  | some v => some (v, m)
  | none => none
def builtinV (P : Program) (b : Builtin) (ts : List TypeId) (as : List V) (m : Mem) : Option (V × Mem) :=
  match b with
  | .len => match ts, as with
    | t :: _, [x] => keepM m (lenV P t x)
    | _, _ => none
  | .cap => match ts, as with
    | t :: _, [x] => keepM m (capV P t x)
    | _, _ => none
  | .append => match ts, as with
    | [t, u], [s, x] => appendV P t u s x m
    | _, _ => none
  | .copy => match ts, as with
    | t :: _, [d, x] => copyV P t d x m
    | _, _ => none
  | .min => match as with
    | x :: xs => keepM m (mmV true x xs)
    | [] => none
  | .max => match as with
    | x :: xs => keepM m (mmV false x xs)
    | [] => none
  | .unsafeSliceData => match as with
    | [x] => keepM m (dataV x)
    | _ => none
  | .unsafeString => match ts, as with
    | [pt, _], [p, n] => unstrV P pt p n m
    | _, _ => none
  | _ => none
def exOpS (P : Program) (ev : Operand → Option V) (o : Oper) (m : Mem) : Option (V × Mem) :=
  match o.op with
  | .move x => keepM m (ev x)
  | .assign x => keepM m (ev x)
  | .pick c a b => match ev c with
    | some (.bool true) => keepM m (ev a)
    | some (.bool false) => keepM m (ev b)
    | _ => none
  | .alloc t => allocV P t m
  | .box t x => match ev x with
    | some v => some (newV t v m)
    | none => none
  | .build t ps => match evParts ev ps.toList with
    | some vs => keepM m (buildV P t vs)
    | none => none
  | .buildSlice t n ps => match evParts ev ps.toList with
    | some vs => buildSliceV P t n vs m
    | none => none
  | .load t a => match ev a with
    | some v => keepM m (loadV P t v m)
    | none => none
  | .store t a x => match ev a, ev x with
    | some p, some v => match storeV P t p v m with
      | some m' => some (undefV, m')
      | none => none
    | _, _ => none
  | .nilCheck x => match ev x with
    | some (.ptr b k) => some (.ptr b k, m)
    | some (.pin b k) => some (.pin b k, m)
    | some (.fn (.func f) a b) => some (.fn (.func f) a b, m)
    | some (.yld b) => some (.yld b, m)
    | _ => none
  | .binOp op t x y _ => match ev x, ev y with
    | some a, some b => keepM m (binV P op t x y a b)
    | _, _ => none
  | .unOp op _ x => match ev x with
    | some a => keepM m (unV op a)
    | none => none
  | .convert s d x => match ev x with
    | some (.ptr b o) => keepM m (convU P s d b o m)
    | some .nilp => keepM m (convN P s d)
    | some a => convV P s d a m
    | none => none
  | .makeInterface t x => match ev x, P.underlying t with
    | some a, some d => match isIface d with
      | true => none
      | false => some (.ifc t a, m)
    | _, _ => none
  | .makeFunc f fi ca => match mapO ev fi.toList, mapO ev ca.toList with
    | some a, some b => some (.fn f a b, m)
    | _, _ => none
  | .makeSlice t a b => match ev a, ev b with
    | some x, some y => makeSliceV P t x y m
    | _, _ => none
  | .slice t x lo hi none => match ev x, optV ev lo, optV ev hi with
    | some a, some l, some h => keepM m (sliceV P t a l h)
    | _, _, _ => none
  | .fieldAddr s x f => match ev x with
    | some a => keepM m (fieldAddrV P s a f)
    | none => none
  | .field t x f => match ev x with
    | some a => keepM m (fieldV P t a f)
    | none => none
  | .indexAddr t x i => match ev x, ev i with
    | some a, some b => keepM m (indexAddrV P t a b)
    | _, _ => none
  | .index t x i => match ev x, ev i with
    | some a, some b => keepM m (indexV P t a b)
    | _, _ => none
  | .extract x i => match ev x with
    | some a => keepM m (extractV a i)
    | none => none
  | .typeAssert x _ t ok => match ev x with
    | some a => keepM m (assertV P t ok a)
    | none => none
  | .makeMap _ none => some (makeMapV m)
  | .lookup t x i ok => match ev x, ev i with
    | some a, some b => keepM m (lookupV P t ok a b m)
    | _, _ => none
  | .mapUpdate t x i v => match ev x, ev i, ev v with
    | some a, some b, some c => match updateV P t a b c m with
      | some m' => some (undefV, m')
      | none => none
    | _, _, _ => none
  | .mapEntry t x i => match ev x, ev i with
    | some a, some b => entryV P t a b m
    | _, _ => none
  | .entryStore _ x i v => match ev x, ev i, ev v with
    | some a, some b, some c => match enstoreV a b c m with
      | some m' => some (undefV, m')
      | none => none
    | _, _, _ => none
  | .call c => match c.callee with
    | .builtin b => match mapO ev c.args.toList with
      | some as => builtinV P b c.argTypes.toList as m
      | none => none
    | _ => none
  | _ => none


def exPick (c a b : Option V) (m : Mem) : Option (V × Mem) := match c with
  | some (.bool true) => keepM m a
  | some (.bool false) => keepM m b
  | _ => none
def exBox (t : TypeId) (x : Option V) (m : Mem) : Option (V × Mem) := match x with
  | some v => some (newV t v m)
  | none => none
def exBuild (P : Program) (t : TypeId) (x : Option (List (Nat × V))) (m : Mem) : Option (V × Mem) := match x with
  | some vs => keepM m (buildV P t vs)
  | none => none
def exBuildSlice (P : Program) (t : TypeId) (n : Nat) (x : Option (List (Nat × V))) (m : Mem) : Option (V × Mem) := match x with
  | some vs => buildSliceV P t n vs m
  | none => none
def exLoad (P : Program) (t : TypeId) (x : Option V) (m : Mem) : Option (V × Mem) := match x with
  | some v => keepM m (loadV P t v m)
  | none => none
def exStore (P : Program) (t : TypeId) (x y : Option V) (m : Mem) : Option (V × Mem) := match x, y with
  | some p, some v => match storeV P t p v m with
    | some m' => some (undefV, m')
    | none => none
  | _, _ => none
def exNil (x : Option V) (m : Mem) : Option (V × Mem) := match x with
  | some (.ptr b k) => some (.ptr b k, m)
  | some (.pin b k) => some (.pin b k, m)
  | some (.fn (.func f) a b) => some (.fn (.func f) a b, m)
  | some (.yld b) => some (.yld b, m)
  | _ => none
def exBin (P : Program) (op : BinOp) (t : TypeId) (x y : Operand) (u v : Option V) (m : Mem) : Option (V × Mem) := match u, v with
  | some a, some b => keepM m (binV P op t x y a b)
  | _, _ => none
def exUn (op : UnOp) (x : Option V) (m : Mem) : Option (V × Mem) := match x with
  | some a => keepM m (unV op a)
  | none => none
def exConv (P : Program) (s d : TypeId) (x : Option V) (m : Mem) : Option (V × Mem) := match x with
  | some (.ptr b o) => keepM m (convU P s d b o m)
  | some .nilp => keepM m (convN P s d)
  | some a => convV P s d a m
  | none => none
def exIface (P : Program) (t : TypeId) (x : Option V) (m : Mem) : Option (V × Mem) := match x, P.underlying t with
  | some a, some d => match isIface d with
    | true => none
    | false => some (.ifc t a, m)
  | _, _ => none
def exFunc (f : Fn) (x y : Option (List V)) (m : Mem) : Option (V × Mem) := match x, y with
  | some a, some b => some (.fn f a b, m)
  | _, _ => none
def exMake (P : Program) (t : TypeId) (x y : Option V) (m : Mem) : Option (V × Mem) := match x, y with
  | some a, some b => makeSliceV P t a b m
  | _, _ => none
def exSlice (P : Program) (t : TypeId) (x : Option V) (y z : Option (Option V)) (m : Mem) : Option (V × Mem) := match x, y, z with
  | some a, some l, some h => keepM m (sliceV P t a l h)
  | _, _, _ => none
def exFieldAddr (P : Program) (s : TypeId) (x : Option V) (f : Nat) (m : Mem) : Option (V × Mem) := match x with
  | some a => keepM m (fieldAddrV P s a f)
  | none => none
def exField (P : Program) (s : TypeId) (x : Option V) (f : Nat) (m : Mem) : Option (V × Mem) := match x with
  | some a => keepM m (fieldV P s a f)
  | none => none
def exIndexAddr (P : Program) (t : TypeId) (x y : Option V) (m : Mem) : Option (V × Mem) := match x, y with
  | some a, some b => keepM m (indexAddrV P t a b)
  | _, _ => none
def exIndex (P : Program) (t : TypeId) (x y : Option V) (m : Mem) : Option (V × Mem) := match x, y with
  | some a, some b => keepM m (indexV P t a b)
  | _, _ => none
def exExtract (x : Option V) (i : Nat) (m : Mem) : Option (V × Mem) := match x with
  | some a => keepM m (extractV a i)
  | none => none
def exAssert (P : Program) (t : TypeId) (ok : Bool) (x : Option V) (m : Mem) : Option (V × Mem) := match x with
  | some a => keepM m (assertV P t ok a)
  | none => none
def exLookup (P : Program) (t : TypeId) (ok : Bool) (x y : Option V) (m : Mem) : Option (V × Mem) := match x, y with
  | some a, some b => keepM m (lookupV P t ok a b m)
  | _, _ => none
def exUpdate (P : Program) (t : TypeId) (x y z : Option V) (m : Mem) : Option (V × Mem) := match x, y, z with
  | some a, some b, some c => match updateV P t a b c m with
    | some m' => some (undefV, m')
    | none => none
  | _, _, _ => none
def exEntry (P : Program) (t : TypeId) (x y : Option V) (m : Mem) : Option (V × Mem) := match x, y with
  | some a, some b => entryV P t a b m
  | _, _ => none
def exEnstore (x y z : Option V) (m : Mem) : Option (V × Mem) := match x, y, z with
  | some a, some b, some c => match enstoreV a b c m with
    | some m' => some (undefV, m')
    | none => none
  | _, _, _ => none
def exBuiltin (P : Program) (b : Builtin) (ts : Array TypeId) (x : Option (List V)) (m : Mem) : Option (V × Mem) := match x with
  | some as => builtinV P b ts.toList as m
  | none => none
def exCall : Callee → Program → Array Operand → Array TypeId → (Operand → Option V) → Mem → Option (V × Mem)
  | .builtin b => fun P as ts ev m => exBuiltin P b ts (mapO ev as.toList) m
  | _ => fun _ _ _ _ _ => none
/-- One operation, in the form that the kernel reckons. -/
def exOp : Op → Program → (Operand → Option V) → Mem → Option (V × Mem)
  | .move x => fun _ ev m => keepM m (ev x)
  | .assign x => fun _ ev m => keepM m (ev x)
  | .pick c a b => fun _ ev m => exPick (ev c) (ev a) (ev b) m
  | .alloc t => fun P _ m => allocV P t m
  | .box t x => fun _ ev m => exBox t (ev x) m
  | .build t ps => fun P ev m => exBuild P t (evParts ev ps.toList) m
  | .buildSlice t n ps => fun P ev m => exBuildSlice P t n (evParts ev ps.toList) m
  | .load t a => fun P ev m => exLoad P t (ev a) m
  | .store t a x => fun P ev m => exStore P t (ev a) (ev x) m
  | .nilCheck x => fun _ ev m => exNil (ev x) m
  | .binOp op t x y _ => fun P ev m => exBin P op t x y (ev x) (ev y) m
  | .unOp op _ x => fun _ ev m => exUn op (ev x) m
  | .convert s d x => fun P ev m => exConv P s d (ev x) m
  | .makeInterface t x => fun P ev m => exIface P t (ev x) m
  | .makeFunc f fi ca => fun _ ev m => exFunc f (mapO ev fi.toList) (mapO ev ca.toList) m
  | .makeSlice t a b => fun P ev m => exMake P t (ev a) (ev b) m
  | .slice t x lo hi none => fun P ev m => exSlice P t (ev x) (optV ev lo) (optV ev hi) m
  | .fieldAddr s x f => fun P ev m => exFieldAddr P s (ev x) f m
  | .field t x f => fun P ev m => exField P t (ev x) f m
  | .indexAddr t x i => fun P ev m => exIndexAddr P t (ev x) (ev i) m
  | .index t x i => fun P ev m => exIndex P t (ev x) (ev i) m
  | .extract x i => fun _ ev m => exExtract (ev x) i m
  | .typeAssert x _ t ok => fun P ev m => exAssert P t ok (ev x) m
  | .makeMap _ none => fun _ _ m => some (makeMapV m)
  | .lookup t x i ok => fun P ev m => exLookup P t ok (ev x) (ev i) m
  | .mapUpdate t x i v => fun P ev m => exUpdate P t (ev x) (ev i) (ev v) m
  | .mapEntry t x i => fun P ev m => exEntry P t (ev x) (ev i) m
  | .entryStore _ x i v => fun _ ev m => exEnstore (ev x) (ev i) (ev v) m
  | .call c => fun P ev m => exCall c.callee P c.args c.argTypes ev m
  | _ => fun _ _ _ => none
theorem exOp_eq (P : Program) (ev : Operand → Option V) (o : Oper) (m : Mem) : exOp o.op P ev m = exOpS P ev o m := by
  unfold exOp exOpS
  cases o.op with
  | slice t x lo hi mx => cases mx <;> rfl
  | makeMap t r => cases r <;> rfl
  | call c => obtain ⟨cl, as, ts⟩ := c; cases cl <;> rfl
  | _ => rfl

/-- The operation comes to v and m'. -/
theorem exOp_nd {P : Program} {ev : Operand → Option V} {m : Mem} {o : Op} {r} (h : exOp o P ev m = some r) : ∀ c, o ≠ .defer c := fun c e => by subst e; cases h
def OpDoes (P : Program) (F : Fx) (w0 : World) (ρ : Rho) (w : World) (s : Sem Next) (v : V) (m' : Mem) : Prop :=
  ∃ ρ' x w', Ext ρ ρ' ∧ (s.run P w = .ok (.value x) w' ∨ (s.run P w = .ok .skip w' ∧ x = undef)) ∧ RelV ρ' v x ∧ RM F w0 ρ' m' w'
theorem OpDoes.of {P F w0 ρ w} {s : Sem Value} {v m'} (h : Does P F w0 ρ w s v m') : OpDoes P F w0 ρ w (do pure (.value (← s))) v m' := by
  obtain ⟨ρ', x, w', h1, h2, h3, h4⟩ := h
  exact ⟨ρ', x, w', h1, .inl (by simp [h2]), h3, h4⟩
theorem OpDoes.same {P F w0 ρ w m} {s : Sem Value} {v} (hm : RM F w0 ρ m w) (h : ∃ x, s.run P w = .ok x w ∧ RelV ρ v x) : OpDoes P F w0 ρ w (do pure (.value (← s))) v m := by
  obtain ⟨x, h1, h2⟩ := h
  exact .of (Does.same h1 h2 hm)
theorem keepM_some {m m' : Mem} {o : Option V} {v : V} (h : keepM m o = some (v, m')) : o = some v ∧ m' = m := by
  cases o with
  | none => cases h
  | some u => cases h; exact ⟨rfl, rfl⟩
theorem builtin_ok {P F w0 ρ m w} (hm : RM F w0 ρ m w) {b : Builtin} {ts : Array TypeId} {ty : TypeId} {cs : Array Bool} {vs : List V} {xs : List Value} {v m'} (hv : RelL ρ vs xs) (h : builtinV P b ts.toList vs m = some (v, m')) :
    OpDoes P F w0 ρ w (builtin b ts ty cs xs.toArray) v m' := by
  have tsA : ∀ l, ts.toList = l → ts = l.toArray := fun l e => by rw [← e]
  unfold builtinV at h
  split at h
  · split at h
    · rename_i t ts' x hts
      replace h := keepM_some h; obtain ⟨h, rfl⟩ := h
      rw [RelL] at hv
      obtain ⟨a, ys, rfl, h1, h2⟩ := hv
      rw [RelL] at h2; subst h2
      exact .same hm (len_ok (t := t) (by rw [tsA _ hts]; simp) h1 h)
    · cases h
  · split at h
    · rename_i t ts' x hts
      replace h := keepM_some h; obtain ⟨h, rfl⟩ := h
      rw [RelL] at hv
      obtain ⟨a, ys, rfl, h1, h2⟩ := hv
      rw [RelL] at h2; subst h2
      exact .same hm (cap_ok (t := t) (by rw [tsA _ hts]; simp) h1 h)
    · cases h
  · split at h
    · rename_i t u s x hts
      rw [RelL] at hv
      obtain ⟨a, ys, rfl, h1, h2⟩ := hv
      rw [RelL] at h2
      obtain ⟨b, zs, rfl, h3, h4⟩ := h2
      rw [RelL] at h4; subst h4
      rw [tsA _ hts]
      exact .of (append_ok hm h1 h3 h)
    · cases h
  · split at h
    · rename_i t ts' d x hts
      rw [RelL] at hv
      obtain ⟨a, ys, rfl, h1, h2⟩ := hv
      rw [RelL] at h2
      obtain ⟨b, zs, rfl, h3, h4⟩ := h2
      rw [RelL] at h4; subst h4
      exact .of (copy_ok (t := t) (by rw [tsA _ hts]; simp) hm h1 h3 h)
    · cases h
  · split at h
    · rename_i x xs'
      replace h := keepM_some h; obtain ⟨h, rfl⟩ := h
      rw [RelL] at hv
      obtain ⟨a, ys, rfl, h1, h2⟩ := hv
      obtain ⟨y, h3, h4⟩ := min_ok (P := P) (w := w) _ _ _ _ _ h1 h2 h
      exact .same (s := Builtin.min_ ts ty (a :: ys).toArray) hm ⟨y, by simpa [Builtin.min_] using h3, h4⟩
    · cases h
  · split at h
    · rename_i x xs'
      replace h := keepM_some h; obtain ⟨h, rfl⟩ := h
      rw [RelL] at hv
      obtain ⟨a, ys, rfl, h1, h2⟩ := hv
      obtain ⟨y, h3, h4⟩ := max_ok (P := P) (w := w) _ _ _ _ _ h1 h2 h
      exact .same (s := Builtin.max_ ts ty (a :: ys).toArray) hm ⟨y, by simpa [Builtin.max_] using h3, h4⟩
    · cases h
  · split at h
    · rename_i x
      replace h := keepM_some h; obtain ⟨h, rfl⟩ := h
      rw [RelL] at hv
      obtain ⟨a, ys, rfl, h1, h2⟩ := hv
      rw [RelL] at h2; subst h2
      exact .same hm (data_ok (ts := ts) (ty := ty) h1 h)
    · cases h
  · split at h
    · rename_i pt it p n hts
      rw [RelL] at hv
      obtain ⟨a, ys, rfl, h1, h2⟩ := hv
      rw [RelL] at h2
      obtain ⟨b, zs, rfl, h3, h4⟩ := h2
      rw [RelL] at h4; subst h4
      rw [tsA _ hts]
      exact .of (unstr_ok hm h1 h3 h)
    · cases h
  · cases h
set_option maxHeartbeats 1000000 in
theorem exOp_ok {P F w0 ρ m w} {ev : Operand → Option V} {r : Operand → Value} (hev : ∀ x v, ev x = some v → RelV ρ v (r x)) (hm : RM F w0 ρ m w) {o : Oper} {v m'} (h : exOp o.op P ev m = some (v, m')) :
    OpDoes P F w0 ρ w (execOp r o) v m' := by
  rw [exOp_eq] at h
  unfold exOpS at h
  unfold execOp
  split at h <;> rename_i heq <;> simp only [heq]
  · replace h := keepM_some h; obtain ⟨h, rfl⟩ := h
    exact ⟨ρ, _, w, Ext.refl ρ, .inl rfl, hev _ _ h, hm⟩
  · replace h := keepM_some h; obtain ⟨h, rfl⟩ := h
    exact ⟨ρ, _, w, Ext.refl ρ, .inl rfl, hev _ _ h, hm⟩
  · split at h
    · rename_i hc
      replace h := keepM_some h; obtain ⟨h, rfl⟩ := h
      have := hev _ _ hc
      rw [RelV] at this
      exact ⟨ρ, _, w, Ext.refl ρ, .inl (by simp [this, asBool]), hev _ _ h, hm⟩
    · rename_i hc
      replace h := keepM_some h; obtain ⟨h, rfl⟩ := h
      have := hev _ _ hc
      rw [RelV] at this
      exact ⟨ρ, _, w, Ext.refl ρ, .inl (by simp [this, asBool]), hev _ _ h, hm⟩
    · cases h
  · exact .of (alloc_ok hm h)
  · split at h
    · rename_i u hu
      cases h
      exact .of (box_ok hm (hev _ _ hu))
    · cases h
  · rename_i t ps
    split at h
    · rename_i vs hvs
      replace h := keepM_some h; obtain ⟨h, rfl⟩ := h
      exact .same hm (build_ok (by simpa using evParts_rel hev _ _ hvs) h)
    · cases h
  · rename_i t n ps
    split at h
    · rename_i vs hvs
      exact .of (buildSlice_ok hm (by simpa using evParts_rel hev _ _ hvs) h)
    · cases h
  · split at h
    · rename_i u hu
      replace h := keepM_some h; obtain ⟨h, rfl⟩ := h
      exact .same hm (load_ok hm (hev _ _ hu) h)
    · cases h
  · split at h
    · rename_i p q hp hq
      split at h
      · rename_i m1 hm1
        cases h
        obtain ⟨w', h1, h2, h3⟩ := store_ok (P := P) hm (hev _ _ hp) (hev _ _ hq) hm1
        exact ⟨ρ, undef, w', Ext.refl ρ, .inr ⟨by simp [h1], rfl⟩, undef_rel, h2⟩
      · cases h
    · cases h
  · split at h
    · rename_i b k hu
      cases h
      have := hev _ _ hu
      have hrel := this
      rw [RelV] at this
      obtain ⟨q, c, hr, he⟩ := this
      refine ⟨ρ, _, w, Ext.refl ρ, .inl ?_, hrel, hm⟩
      rw [he]; rfl
    · rename_i b k hu
      cases h
      have := hev _ _ hu
      have hrel := this
      rw [RelV] at this
      obtain ⟨q, c, hr, he, _⟩ := this
      refine ⟨ρ, _, w, Ext.refl ρ, .inl ?_, hrel, hm⟩
      rw [he]; rfl
    · rename_i f a b hu
      cases h
      have := hev _ _ hu
      have hrel := this
      rw [RelV] at this
      obtain ⟨q, c, he, _⟩ := this
      refine ⟨ρ, _, w, Ext.refl ρ, .inl ?_, hrel, hm⟩
      rw [he]; rfl
    · rename_i b hu
      cases h
      have := hev _ _ hu
      have hrel := this
      rw [RelV] at this
      obtain ⟨q, c, hr, he⟩ := this
      refine ⟨ρ, _, w, Ext.refl ρ, .inl ?_, hrel, hm⟩
      rw [he]; rfl
    · cases h
  · split at h
    · rename_i a b ha hb
      replace h := keepM_some h; obtain ⟨h, rfl⟩ := h
      exact .same hm (bin_ok (hev _ _ ha) (hev _ _ hb) h)
    · cases h
  · split at h
    · rename_i a ha
      replace h := keepM_some h; obtain ⟨h, rfl⟩ := h
      exact .same hm (un_ok (hev _ _ ha) h)
    · cases h
  · split at h
    · rename_i b k ha
      replace h := keepM_some h; obtain ⟨h, rfl⟩ := h
      exact .same hm (convU_ok hm (hev _ _ ha) h)
    · rename_i ha
      replace h := keepM_some h; obtain ⟨h, rfl⟩ := h
      exact .same hm (convN_ok (hev _ _ ha) h)
    · rename_i a _ _ ha
      exact .of (conv_ok hm (hev _ _ ha) h)
    · cases h
  · split at h
    · rename_i a d ha hd
      split at h
      · cases h
      · rename_i hi
        cases h
        refine .same hm ⟨_, ?_, by rw [RelV]; exact ⟨_, rfl, hev _ _ ha⟩⟩
        simp only [Instr.makeInterface, Sem.run_bind, run_ty hd, Result.andThen_ok]
        cases d <;> first | rfl | cases hi
    · cases h
  · split at h
    · rename_i a b ha hb
      cases h
      exact .same hm ⟨_, rfl, by rw [RelV]; exact ⟨_, _, by congr 1 <;> (apply Array.ext'; simp), mapO_rel2 hev _ _ ha, mapO_rel2 hev _ _ hb⟩⟩
    · cases h
  · split at h
    · rename_i a b ha hb
      exact .of (makeSlice_ok hm (hev _ _ ha) (hev _ _ hb) h)
    · cases h
  · split at h
    · rename_i a l u ha hl hu
      replace h := keepM_some h; obtain ⟨h, rfl⟩ := h
      exact .same hm (slice_ok (hev _ _ ha) (optV_rel hev hl) (optV_rel hev hu) h)
    · cases h
  · split at h
    · rename_i a ha
      replace h := keepM_some h; obtain ⟨h, rfl⟩ := h
      exact .same hm (fieldAddr_ok (hev _ _ ha) h)
    · cases h
  · split at h
    · rename_i a ha
      replace h := keepM_some h; obtain ⟨h, rfl⟩ := h
      exact .same hm (field_ok (hev _ _ ha) h)
    · cases h
  · split at h
    · rename_i a b ha hb
      replace h := keepM_some h; obtain ⟨h, rfl⟩ := h
      exact .same hm (indexAddr_ok (hev _ _ ha) (hev _ _ hb) h)
    · cases h
  · split at h
    · rename_i a b ha hb
      replace h := keepM_some h; obtain ⟨h, rfl⟩ := h
      exact .same hm (index_ok (hev _ _ ha) (hev _ _ hb) h)
    · cases h
  · split at h
    · rename_i a ha
      replace h := keepM_some h; obtain ⟨h, rfl⟩ := h
      exact .same hm (extract_ok (hev _ _ ha) h)
    · cases h
  · split at h
    · rename_i a ha
      replace h := keepM_some h; obtain ⟨h, rfl⟩ := h
      exact .same hm (assert_ok (hev _ _ ha) h)
    · cases h
  · cases h
    exact .of (makeMap_ok hm _)
  · split at h
    · rename_i a b ha hb
      replace h := keepM_some h; obtain ⟨h, rfl⟩ := h
      exact .same hm (lookup_ok hm (hev _ _ ha) (hev _ _ hb) h)
    · cases h
  · split at h
    · rename_i p q u hp hq hu
      split at h
      · rename_i m1 hm1
        cases h
        obtain ⟨w', h1, h2⟩ := update_ok (P := P) hm (hev _ _ hp) (hev _ _ hq) (hev _ _ hu) hm1
        exact ⟨ρ, undef, w', Ext.refl ρ, .inr ⟨by simp [h1], rfl⟩, undef_rel, h2⟩
      · cases h
    · cases h
  · split at h
    · rename_i a b ha hb
      exact .of (entry_ok hm (hev _ _ ha) (hev _ _ hb) h)
    · cases h
  · rename_i t0 _ _ _
    split at h
    · rename_i p q u hp hq hu
      split at h
      · rename_i m1 hm1
        cases h
        obtain ⟨w', h1, h2⟩ := enstore_ok (P := P) (t := t0) hm (hev _ _ hp) (hev _ _ hq) (hev _ _ hu) hm1
        exact ⟨ρ, undef, w', Ext.refl ρ, .inr ⟨by simp [h1], rfl⟩, undef_rel, h2⟩
      · cases h
    · cases h
  · rename_i c
    split at h
    · rename_i b hb
      split at h
      · rename_i as has
        have := builtin_ok (P := P) (ts := c.argTypes) (ty := o.type) (cs := c.args.map fun | .const _ => true | _ => false) hm (mapO_rel2 hev _ _ has) h
        obtain ⟨ρ', x, w', h1, h2, h3, h4⟩ := this
        refine ⟨ρ', x, w', h1, ?_, h3, h4⟩
        have e : (c.args.toList.map r).toArray = c.args.map r := by apply Array.ext'; rw [Array.toList_map]
        rw [e] at h2
        simp only [resolve, hb]
        exact h2
      · cases h
    · cases h
  · cases h
end Go.CE
