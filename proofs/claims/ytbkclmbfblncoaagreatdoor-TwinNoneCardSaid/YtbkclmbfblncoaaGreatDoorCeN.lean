/-
  CLOSED EVALUATION, 14: operations hang on their operands alone; rows that are laid.
-/
import Derived.Test.YtbkclmbfblncoaaGreatDoorCeM
noncomputable section
namespace Go.CE
open Go
set_option linter.unusedSimpArgs false
set_option linter.unusedVariables false

theorem evParts_congr {ev ev' : Operand → Option V} : ∀ (ps : List (Nat × Operand)), (∀ x ∈ ps.map (·.2), ev x = ev' x) → evParts ev ps = evParts ev' ps
  | [], _ => rfl
  | (i, x) :: ps, h => by
    have h1 := h x (by simp)
    have h2 := evParts_congr ps fun y hy => h y (by simp at hy ⊢; exact .inr hy)
    rw [evParts, evParts, h1, h2]
theorem mapO_congr {α β : Type} {f g : α → Option β} : ∀ (l : List α), (∀ x ∈ l, f x = g x) → mapO f l = mapO g l
  | [], _ => rfl
  | x :: xs, h => by rw [mapO_cons, mapO_cons, h x (by simp), mapO_congr xs fun y hy => h y (by simp [hy])]
theorem optV_congr {ev ev' : Operand → Option V} {o : Option Operand} (h : ∀ x ∈ o.toArray, ev x = ev' x) : optV ev o = optV ev' o := by
  cases o with
  | none => rfl
  | some x => rw [optV, optV, h x (by simp)]
theorem exOp_congr {P : Program} {ev ev' : Operand → Option V} (op : Op) (m : Mem) (h : ∀ x ∈ op.operands, ev x = ev' x) : exOp op P ev m = exOp op P ev' m := by
  cases op <;> simp only [Op.operands] at h <;> simp only [exOp]
  case move x => rw [h x (by simp)]
  case assign x => rw [h x (by simp)]
  case pick c a b => rw [h c (by simp), h a (by simp), h b (by simp)]
  case box t x => rw [h x (by simp)]
  case build t ps => rw [evParts_congr ps.toList fun x hx => h x (by simpa using hx)]
  case buildSlice t n ps => rw [evParts_congr ps.toList fun x hx => h x (by simpa using hx)]
  case load t x => rw [h x (by simp)]
  case store t x y => rw [h x (by simp), h y (by simp)]
  case nilCheck x => rw [h x (by simp)]
  case binOp op t x y yt => rw [h x (by simp), h y (by simp)]
  case unOp op t x => rw [h x (by simp)]
  case convert s d x => rw [h x (by simp)]
  case makeInterface t x => rw [h x (by simp)]
  case makeFunc f fi ca => rw [mapO_congr fi.toList fun x hx => h x (by simp at hx ⊢; exact .inl hx), mapO_congr ca.toList fun x hx => h x (by simp at hx ⊢; exact .inr hx)]
  case makeSlice t x y => rw [h x (by simp), h y (by simp)]
  case slice t x lo hi mx =>
    cases mx with
    | none =>
      simp only
      rw [h x (by simp), optV_congr (o := lo) fun y hy => h y (by simp at hy ⊢; exact .inr (.inl hy)), optV_congr (o := hi) fun y hy => h y (by simp at hy ⊢; exact .inr (.inr hy))]
    | some y => rfl
  case fieldAddr s x f => rw [h x (by simp)]
  case field s x f => rw [h x (by simp)]
  case indexAddr t x y => rw [h x (by simp), h y (by simp)]
  case index t x y => rw [h x (by simp), h y (by simp)]
  case extract x i => rw [h x (by simp)]
  case typeAssert x _ _ _ => rw [h x (by simp)]
  case lookup _ x y _ => rw [h x (by simp), h y (by simp)]
  case mapUpdate _ x y z => rw [h x (by simp), h y (by simp), h z (by simp)]
  case mapEntry _ x y => rw [h x (by simp), h y (by simp)]
  case entryStore _ x y z => rw [h x (by simp), h y (by simp), h z (by simp)]
  case makeMap _ r => cases r <;> rfl
  case call c =>
    obtain ⟨cl, as, ts⟩ := c
    cases cl with
    | builtin b => simp only [exCall]; rw [mapO_congr as.toList fun x hx => h x (by simp [Call.operands] at hx ⊢; exact hx)]
    | _ => rfl
theorem calleeV_congr {ev ev' : Operand → Option V} (c : Call) (h : ∀ x ∈ c.operands, ev x = ev' x) : calleeV c.callee c.args ev = calleeV c.callee c.args ev' := by
  obtain ⟨cl, as, ts⟩ := c
  cases cl with
  | value f =>
    simp only [calleeV]
    rw [h f (by simp [Call.operands]), mapO_congr as.toList fun x hx => h x (by simp [Call.operands] at hx ⊢; exact .inr hx)]
  | _ => rfl
/-- What reads no memory is the same on any. -/
theorem silent_any {P : Program} {ev : Operand → Option V} {op : Op} {m m' m2 : Mem} {v : V} (hs : silentB P op = true) (hr : readsB op = false) (h : exOp op P ev m = some (v, m')) : exOp op P ev m2 = some (v, m2) := by
  have km : ∀ (o : Option V), keepM m o = some (v, m') → keepM m2 o = some (v, m2) := fun o ho => by
    rw [(keepM_some ho).1]; rfl
  cases op <;> first
    | (simp [silentB] at hs; done)
    | (simp [readsB] at hr; done)
    | (exact km _ h)
    | skip
  all_goals (try simp only [exOp, exPick, exBuild, exNil, exBin, exUn, exIface, exFunc, exSlice, exFieldAddr, exField, exIndexAddr, exIndex, exExtract] at h ⊢)
  all_goals (try (repeat' (split at h)) <;> first | (simp_all; done) | (exact km _ h) | (cases h; rfl) | (cases h; done) | (simp_all [keepM]; done))
  · rename_i t x lo hi mx
    cases mx with
    | none =>
      have h : exSlice P t (ev x) (optV ev lo) (optV ev hi) m = some (v, m') := h
      show exSlice P t (ev x) (optV ev lo) (optV ev hi) m2 = some (v, m2)
      cases e1 : ev x <;> cases e2 : optV ev lo <;> cases e3 : optV ev hi <;> rw [e1, e2, e3] at h <;> first
        | (cases h; done)
        | exact km _ h
    | some y => cases h
  · rename_i c
    obtain ⟨cl, as, ts⟩ := c
    cases cl with
    | builtin b =>
      have h : exBuiltin P b ts (mapO ev as.toList) m = some (v, m') := h
      show exBuiltin P b ts (mapO ev as.toList) m2 = some (v, m2)
      unfold exBuiltin at h ⊢
      split at h
      · rename_i vs hvs
        cases b <;> first
          | (simp [silentB, quietBuiltin] at hs; done)
          | skip
        all_goals (simp only [builtinV] at h ⊢; split at h <;> first | (exact km _ h) | (cases h; done))
      · cases h
    | _ => cases h

/-! rows that are laid -/
inductive FRef where
  | p
  | s (n : Nat)
  | m (l d : Nat)
def FRef.mk : FRef → Nat → V
  | .p, id => .ptr id 0
  | .s n, id => .sl id 0 n (.ex n)
  | .m l d, id => .sl id 0 l (.ex (l + d))
def FRef.real : FRef → Nat → Value
  | .p, r => .pointer (some ⟨r, 0, none⟩)
  | .s n, r => .slice (some ⟨r, 0, none⟩) n n
  | .m l d, r => .slice (some ⟨r, 0, none⟩) l (l + d)
theorem FRef.rel {ρ : Rho} {ref : FRef} {id r c : Nat} (h : ρ id = some (r, c)) : RelV ρ (ref.mk id) (ref.real r) := by
  cases ref with
  | p => rw [FRef.mk, RelV]; exact ⟨r, c, h, rfl⟩
  | s n => rw [FRef.mk, RelV]; exact ⟨r, c, h, rfl, Nat.le_refl _⟩
  | m l d => rw [FRef.mk, RelV]; exact ⟨r, c, h, rfl, Nat.le_add_right _ _⟩
def boxF (t : TypeId) : Option V → Option (TypeId × List V × FRef)
  | some v => some (t, v.cells, .p)
  | none => none
def allocF (P : Program) (t : TypeId) : Option (TypeId × List V × FRef) :=
  match P.info? t with
  | none => none
  | some i => match i.zero with
    | none => none
    | some z => boxF t (V.ofC 20 z)
def sliceF (P : Program) (t : TypeId) (n : Nat) : Option (List (Nat × V)) → Option (TypeId × List V × FRef)
  | none => none
  | some ps => match P.underlying t with
    | some (.slice e) => match zeroV P e with
      | some (size, zs) => match Nat.ble (n * size) 16777216 with
        | true => match fillV (fun i => some (i * size, size)) (repV zs n) ps with
          | some l => some (e, l, .s n)
          | none => none
        | false => none
      | none => none
    | _ => none
def makeF (P : Program) (t : TypeId) : Option V → Option V → Option (TypeId × List V × FRef)
  | some a, some b => match natOf a, natOf b with
    | some l, some c => match P.underlying t with
      | some (.slice e) => match zeroV P e, P.info? e with
        | some (_, zs), some ie => match Nat.ble l c && (Nat.ble (ie.bytes * c) 281474976710656 && Nat.ble c 281474976710656) with
          | true => some (e, repV zs c, .m l (c - l))
          | false => none
        | _, _ => none
      | _ => none
    | _, _ => none
  | _, _ => none
def floatV : Op → Program → (Operand → Option V) → Option (TypeId × List V × FRef)
  | .alloc t => fun P _ => allocF P t
  | .box t x => fun _ ev => boxF t (ev x)
  | .buildSlice t n ps => fun P ev => sliceF P t n (evParts ev ps.toList)
  | .makeSlice t a b => fun P ev => makeF P t (ev a) (ev b)
  | _ => fun _ _ => none
theorem floatV_nd {P : Program} {ev : Operand → Option V} {o : Op} {r} (h : floatV o P ev = some r) : ∀ c, o ≠ .defer c := fun c e => by subst e; cases h
theorem floatV_congr {P : Program} {ev ev' : Operand → Option V} (op : Op) (h : ∀ x ∈ op.operands, ev x = ev' x) : floatV op P ev = floatV op P ev' := by
  cases op <;> simp only [Op.operands] at h <;> simp only [floatV]
  case box t x => rw [h x (by simp)]
  case buildSlice t n ps => rw [evParts_congr ps.toList fun x hx => h x (by simpa using hx)]
  case makeSlice t x y => rw [h x (by simp), h y (by simp)]
theorem makeF_ok {P : Program} {ρ : Rho} {t : TypeId} {a b : V} {x y : Value} {e : TypeId} {vs : List V} {ref : FRef} (ha : RelV ρ a x) (hb : RelV ρ b y) (h : makeF P t (some a) (some b) = some (e, vs, ref)) :
    ∃ xs, RelL ρ vs xs ∧ ∀ w, (Instr.makeSlice t x y).run P w = .ok (ref.real w.heap.size) (w.alloc (.cells (List.toArray xs) e)) := by
  unfold makeF at h
  simp only at h
  split at h
  · rename_i l c hl hc
    obtain ⟨k1, rfl⟩ := natOf_rel hl ha
    obtain ⟨k2, rfl⟩ := natOf_rel hc hb
    split at h
    · rename_i e' hu
      split at h
      · rename_i n zs ie hz hie
        split at h
        · rename_i hq
          cases h
          simp only [Bool.and_eq_true] at hq
          obtain ⟨q1, q2, q3⟩ := hq
          have q1 := Nat.le_of_ble_eq_true q1
          have q2 := Nat.le_of_ble_eq_true q2
          have q3 := Nat.le_of_ble_eq_true q3
          obtain ⟨i, z, hi, hzz, h1, h2, h3⟩ := zeroV_ok (ρ := ρ) hz
          rw [hie] at hi; cases hi
          have hrep := repV_rel (ρ := ρ) (z := z.cells) c ie.size h3 (by omega)
          refine ⟨_, hrep, fun w => ?_⟩
          have w1 : IntKind.i64.wrap (l : Int) = l := IntWalk.i64_in _ (by omega)
          have w2 : IntKind.i64.wrap (c : Int) = c := IntWalk.i64_in _ (by omega)
          have hbm : ¬ (281474976710656 < (ie.bytes : Int) * (c : Int)) := by
            have : ((ie.bytes * c : Nat) : Int) ≤ ((281474976710656 : Nat) : Int) := Int.ofNat_le.2 q2
            rw [Int.natCast_mul] at this; omega
          have hc0 : ¬ ((c : Int) < 0) := by omega
          have hl0 : ¬ ((l : Int) < 0) := by omega
          have hlc : ¬ ((c : Int) < (l : Int)) := by omega
          have hcond : (decide ((c : Int) < 0) || decide ((ie.bytes : Int) * (c : Int) > 2 ^ 48) || decide ((l : Int) < 0) || decide ((l : Int) > (c : Int))) = false := by
            have e48 : (2 : Int) ^ 48 = 281474976710656 := by decide
            rw [e48]
            simp only [Bool.or_eq_false_iff, decide_eq_false_iff_not]
            exact ⟨⟨⟨hc0, hbm⟩, hl0⟩, hlc⟩
          have hcl : l + (c - l) = c := by omega
          rw [FRef.real, hcl, Array.toArray_toList]
          simp only [Instr.makeSlice, Sem.run_bind, run_ty hu, Result.andThen_ok, asInt, asIntOf, Sem.run_pure, run_info hie, w1, w2]
          rw [hcond]
          simp only [Bool.false_eq_true, if_false]
          simp only [Sem.run_bind, run_askRoom, Result.andThen_ok, run_size hie, Int.toNat_natCast]
          by_cases hn : c * ie.size = 0
          · simp only [hn, if_true, Sem.run_pure, Result.andThen_ok]
            have ea : Array.map (fun i => z.cells[i % z.cells.size]!) (Array.range 0) = #[] := by simp
            rw [ea]
            simp [newRow]
            rw [show Array.map (fun _ => (default : Value)) (Array.range 0) = #[] by simp]
          · simp only [hn, if_false, Sem.run_bind, run_zero hie hzz, Sem.run_pure, Result.andThen_ok]
            simp [newRow]
        · cases h
      · cases h
    · cases h
  · cases h
theorem float_ok {P : Program} {ρ : Rho} {ev : Operand → Option V} {r : Operand → Value} (hev : ∀ x v, ev x = some v → RelV ρ v (r x)) {o : Oper} {t vs ref} (h : floatV o.op P ev = some (t, vs, ref)) :
    ∃ xs, RelL ρ vs xs ∧ ∀ w, (execOp r o).run P w = .ok (.value (ref.real w.heap.size)) (w.alloc (.cells (List.toArray xs) t)) := by
  unfold execOp
  cases hop : o.op <;> rw [hop] at h <;> first
    | (cases h; done)
    | skip
  · rename_i t'
    have h : allocF P t' = some (t, vs, ref) := h
    unfold allocF at h
    split at h
    · cases h
    · rename_i i hi
      split at h
      · cases h
      · rename_i z hz
        unfold boxF at h
        split at h
        · rename_i v hv
          cases h
          refine ⟨z.cells.toList, cells_rel (ofC_rel 20 z v hv), fun w => ?_⟩
          simp [Instr.alloc, run_zero hi hz, newVar, newRow, FRef.real]
        · cases h
  · rename_i t' x
    have h : boxF t' (ev x) = some (t, vs, ref) := h
    unfold boxF at h
    split at h
    · rename_i v hv
      cases h
      refine ⟨(r x).cells.toList, cells_rel (hev _ _ hv), fun w => ?_⟩
      simp [Instr.box, newVar, newRow, FRef.real]
    · cases h
  · rename_i t' n ps
    have h : sliceF P t' n (evParts ev ps.toList) = some (t, vs, ref) := h
    unfold sliceF at h
    split at h
    · cases h
    · rename_i qs hqs
      split at h
      · rename_i e hu
        split at h
        · rename_i size zs hz
          split at h
          · rename_i hb
            split at h
            · rename_i l hl
              cases h
              have hp := evParts_rel hev _ _ hqs
              obtain ⟨i, z, hi, hzz, h1, h2, h3⟩ := zeroV_ok (ρ := ρ) hz
              subst h1
              have hrep := repV_rel (ρ := ρ) (z := z.cells) n i.size h3 h2
              obtain ⟨cs, f1, f2⟩ := fill_ok _ _ _ _ _ hp hrep hl
              refine ⟨cs.toList, f2, fun w => ?_⟩
              have hsm : ¬ n * i.size > 2 ^ 24 := by have := Nat.le_of_ble_eq_true hb; have e24 : 2 ^ 24 = 16777216 := by decide
                                                     omega
              have f1' : Instr.fill (fun i_1 => some (i_1 * i.size, i.size)) (Array.map (fun x => z.cells[x % z.cells.size]!) (Array.range (n * i.size))) (ps.map fun (i, x) => (i, r x)).toList = some cs := by
                simpa using f1
              simp only
              by_cases hn : n * i.size = 0
              · have ea : Array.map (fun x => (#[] : Array Value)[x % (#[] : Array Value).size]!) (Array.range (n * i.size)) = Array.map (fun x => z.cells[x % z.cells.size]!) (Array.range (n * i.size)) := by
                  rw [hn]; simp
                simp only [Instr.buildSlice, Sem.run_bind, run_ty hu, Result.andThen_ok, run_size hi]
                rw [if_neg hsm, if_pos hn]
                simp only [Sem.run_bind, Sem.run_pure, Result.andThen_ok]
                rw [ea, f1']
                simp [newRow, FRef.real]
              · simp only [Instr.buildSlice, Sem.run_bind, run_ty hu, Result.andThen_ok, run_size hi, hsm, if_false, hn, run_zero hi hzz, Sem.run_pure]
                rw [f1']
                simp [newRow, FRef.real]
            · cases h
          · cases h
        · cases h
      · cases h
  · rename_i t' x y
    have h : makeF P t' (ev x) (ev y) = some (t, vs, ref) := h
    cases e1 : ev x with
    | none => rw [e1] at h; cases h
    | some a => cases e2 : ev y with
      | none => rw [e1, e2] at h; cases h
      | some b =>
        rw [e1, e2] at h
        obtain ⟨xs, k1, k2⟩ := makeF_ok (hev _ _ e1) (hev _ _ e2) h
        refine ⟨xs, k1, fun w => ?_⟩
        have k2 := k2 w
        simp [k2]
end Go.CE
