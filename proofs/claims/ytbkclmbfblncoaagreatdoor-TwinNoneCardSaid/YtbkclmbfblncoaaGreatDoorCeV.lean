/-
  CLOSED EVALUATION, 22: what is left unlike from program to program; how a closed call is told.
-/
import Derived.Test.YtbkclmbfblncoaaGreatDoorCeU
import Derived.Laws.LoneSync
noncomputable section
namespace Go.CE
open Go Go.RowKit
set_option linter.unusedSimpArgs false
set_option linter.unusedVariables false

def addX : List V → Mem → Option (V × Mem)
  | [.ptr b o, .int .u64 y], m => match m.cell? b o with
    | some (.int .u64 x) => match m.put b o (.int .u64 (IntKind.u64.wrap (x + y))) with
      | some m' => some (.int .u64 (IntKind.u64.wrap (x + y)), m')
      | none => none
    | _ => none
  | _, _ => none
theorem addX_ok {P : Program} {f : FuncId} {fn : Func} (hf : P.funcs[f]? = some fn) (hname : (fn.name == "runtime.NumGoroutine") = false) (hb : fn.body.isNone = true) (hn : Extern.findNext fn = none)
    (hx : Extern.find fn = some (Extern.Atomic.update (Op.intArith .add) .u64 true)) {as : List V} {m m' : Mem} {v : V} (he : addX as m = some (v, m')) {F : Fx} {w0 w : World} {ρ : Rho} {xs : List Value} (hm : RM F w0 ρ m w) (ha : RelL ρ as xs) :
    ∃ ρ' x w', Ext ρ ρ' ∧ (callFunc f (List.toArray xs)).run P w = .ok (.value x) w' ∧ RelV ρ' v x ∧ RM F w0 ρ' m' w' := by
  unfold addX at he
  split at he
  · rename_i b o y
    split at he
    · rename_i x hc
      split at he
      · rename_i m2 hput
        cases he
        rw [RelL] at ha
        obtain ⟨x1, ys1, rfl, r1, ha⟩ := ha
        rw [RelL] at ha
        obtain ⟨x2, ys2, rfl, r2, ha⟩ := ha
        rw [RelL] at ha
        subst ha
        simp only [RelV] at r1 r2
        obtain ⟨r, c, hr, rfl⟩ := r1
        subst r2
        obtain ⟨x3, h3, h4⟩ := hm.cell hr hc
        rw [RelV] at h4
        subst h4
        have hv : RelV ρ (.int .u64 (IntKind.u64.wrap (x + y))) (.int .u64 (IntKind.u64.wrap (x + y))) := by rw [RelV]
        obtain ⟨_, hz, hm2⟩ := hm.put hr hput hv
        exact ⟨ρ, _, _, Ext.refl ρ, run_call_add hf hname hb hn .u64 hx h3 hz (by simp [go_sem]), hv, hm2⟩
      · cases he
    · cases he
  · cases he

theorem ng_of {P : Program} (h : P.funcs.toList.all (fun fn => !(fn.name == "runtime.NumGoroutine")) = true) : ∀ (f : FuncId) (fn : Func), P.funcs[f]? = some fn → (fn.name == "runtime.NumGoroutine") = false := fun f fn hf => by
  rw [List.all_eq_true] at h
  have := h fn (List.mem_of_getElem? (i := f) (by simpa using hf))
  simpa using this

/-- The start of a closed call: the package variables that it reads. -/
def rho0 (G : Nat) : Rho := ⟨fun i => if i < G then some (i, 0) else none, fun _ => False, fun _ h => h.elim⟩
def rowsAt : List (Nat × TypeId × Nat × List V) → Tr Blk
  | [] => .nil
  | (g, t, n, vs) :: l => (rowsAt l).set g (.row false t n (Tr.fill vs 0 .nil))
def memG (G : Nat) (l : List (Nat × TypeId × Nat × List V)) : Mem := ⟨G, rowsAt l⟩
def Fx.all (G : Nat) (w : World) : Fx := ⟨fun k => k < w.heap.size, G⟩
/-- A package variable holds at least these values. -/
def Holds (w : World) (g : Nat) (t : TypeId) (n : Nat) (vs : List V) : Prop := ∃ xs fr, w.heap[g]? = some (.cells xs t fr) ∧ xs.size = n ∧ ∀ (i : Nat) (v : V), vs[i]? = some v → ∃ x : Value, xs[i]? = some x ∧ RelV (rho0 0) v x
theorem rowsAt_get : ∀ {l : List (Nat × TypeId × Nat × List V)} {i : Nat} {b : Blk}, (rowsAt l).get i = some b → ∃ t n vs, (i, t, n, vs) ∈ l ∧ b = .row false t n (Tr.fill vs 0 .nil)
  | [], i, b, h => by rw [rowsAt, Tr.get_nil] at h; cases h
  | (g, t, n, vs) :: l, i, b, h => by
    rw [rowsAt, Tr.get_set] at h
    split at h
    · rename_i e
      cases h; subst e
      exact ⟨t, n, vs, by simp, rfl⟩
    · obtain ⟨t', n', vs', h1, h2⟩ := rowsAt_get h
      exact ⟨t', n', vs', by simp [h1], h2⟩
theorem memG_rm {G : Nat} {l : List (Nat × TypeId × Nat × List V)} {w : World} (hG : G ≤ w.heap.size) (hl : ∀ g t n vs, (g, t, n, vs) ∈ l → g < G ∧ Holds w g t n vs) : RM (Fx.all G w) w (rho0 G) (memG G l) w := by
  have z : ∀ i p, rho0 0 i = some p → rho0 G i = some p := fun i p h => by
    have h : (if i < 0 then some (i, 0) else none) = some p := h
    rw [if_neg (by omega)] at h; cases h
  refine ⟨fun i b hb => ?_, fun i j bi bj r c c' _ _ hi hj => ?_, fun i hi => ⟨?_, fun h => h⟩, fun k h => h, hG, Nat.le_refl _, fun _ _ => rfl, rfl, rfl, rfl⟩
  · obtain ⟨t, n, vs, h1, rfl⟩ := rowsAt_get hb
    obtain ⟨h2, xs, fr, h3, h4, h5⟩ := hl i t n vs h1
    refine ⟨i, 0, if_pos h2, fun h => (by cases h), fun _ => h2, xs, fr, h3, h4, fun j v hv => ?_, fun h => (by cases h)⟩
    rw [Tr.get_fill] at hv
    split at hv
    · rw [Nat.sub_zero] at hv
      obtain ⟨x, k1, k2⟩ := h5 j v hv
      exact ⟨x, k1, RelV.monoF z _ _ k2⟩
    · rw [Tr.get_nil] at hv; cases hv
  · have hi : (if i < G then some (i, 0) else none) = some (r, c) := hi
    have hj : (if j < G then some (j, 0) else none) = some (r, c') := hj
    split at hi
    · split at hj
      · cases hi; cases hj; rfl
      · cases hj
    · cases hi
  · have hi : G ≤ i := hi
    show (if i < G then some (i, 0) else none) = none
    rw [if_neg (by omega)]
def vOf : Option (V × Mem) → Option V
  | some (v, _) => some v
  | none => none
theorem RM.below {F : Fx} {G : Nat} {w w' : World} {ρ : Rho} {m : Mem} (h : RM (Fx.all G w) w ρ m w') : Below w.heap.size w w' := ⟨h.os, h.tape, h.output, h.size, fun k hk => h.keep k hk⟩
/-- A closed call, out of what was reckoned. -/
theorem closed_call {P : Program} {T : Tab} (hT : TabOk P T) (hmix : P.follows .mixedOrders = true) {N d n : Nat} {f : FuncId} {as : List V} {v : V} {l : List (Nat × TypeId × Nat × List V)} {w : World} {xs : List Value} (he : vOf (callE (envD P T N d) n f as (memG T.g l)) = some v)
    (hG : T.g ≤ w.heap.size) (hl : ∀ g t n vs, (g, t, n, vs) ∈ l → g < T.g ∧ Holds w g t n vs) (ha : RelL (rho0 T.g) as xs) :
    Calls P f (List.toArray xs) w fun e w' => ∃ ρ' x, e = .returned x ∧ RelV ρ' v x ∧ Below w.heap.size w w' := by
  cases hc : callE (envD P T N d) n f as (memG T.g l) with
  | none => rw [hc] at he; cases he
  | some p =>
    obtain ⟨v', m'⟩ := p
    rw [hc] at he
    have he : some v' = some v := he
    cases he
    refine (callD_ok hT hmix hc (memG_rm hG hl) (fun g hg => ⟨0, if_pos hg⟩) ha).mono fun e w' ⟨ρ', x, h1, _, h3, h4⟩ => ⟨ρ', x, h1, h3, RM.below (F := Fx.all T.g w) h4⟩
end Go.CE
