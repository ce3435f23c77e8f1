/-
  CLOSED EVALUATION, 8a: what a value of an interface holds, and maps whose keys are whole numbers.
-/
import Derived.Test.YtbkclmbfblncoaaGreatDoorCeH
noncomputable section
namespace Go.CE
open Go
set_option linter.unusedSimpArgs false
set_option linter.unusedVariables false

def isIface : TypeDesc → Bool
  | .interface _ => true
  | _ => false
/-- The value of no more than a type. -/
def zeroOf (P : Program) (t : TypeId) : Option V := match P.info? t with
  | some i => match i.zero with
    | some z => V.ofC 20 z
    | none => none
  | none => none
theorem zeroOf_ok {P : Program} {ρ : Rho} {t : TypeId} {v : V} {w : World} (h : zeroOf P t = some v) : ∃ x, (zeroValue t).run P w = .ok x w ∧ RelV ρ v x := by
  unfold zeroOf at h
  split at h
  · rename_i i hi
    split at h
    · rename_i z hz
      exact ⟨z, run_zero hi hz, ofC_rel 20 z v h⟩
    · cases h
  · cases h
def okV (ok : Bool) (v : V) (b : Bool) : V := match ok with
  | true => .tup [v, .bool b]
  | false => v
theorem okV_rel {ρ : Rho} {ok : Bool} {v : V} {x : Value} {b : Bool} (h : RelV ρ v x) : RelV ρ (okV ok v b) (if ok = true then .tuple #[x, .bool b] else x) := by
  cases ok with
  | true => rw [okV, RelV]; exact ⟨[x, .bool b], rfl, .cons h (.one (by rw [RelV]))⟩
  | false => exact h
def assertV (P : Program) (t : TypeId) (ok : Bool) : V → Option V
  | .ifc u v => match P.underlying t with
    | some d => match isIface d with
      | true => none
      | false => match Nat.beq u t with
        | true => some (okV ok v true)
        | false => match ok with
          | true => match zeroOf P t with
            | some z => some (okV true z false)
            | none => none
          | false => none
    | none => none
  | .nili => match P.underlying t with
    | some d => match isIface d with
      | true => none
      | false => match ok with
        | true => match zeroOf P t with
          | some z => some (okV true z false)
          | none => none
        | false => none
    | none => none
  | _ => none
theorem assert_ok {P : Program} {ρ : Rho} {w : World} {xt t : TypeId} {ok : Bool} {a v : V} {x : Value} (ha : RelV ρ a x) (h : assertV P t ok a = some v) : ∃ y, (Instr.typeAssert x xt t ok).run P w = .ok y w ∧ RelV ρ v y := by
  unfold assertV at h
  split at h
  · rename_i u b
    rw [RelV] at ha
    obtain ⟨y, rfl, hy⟩ := ha
    split at h
    · rename_i d hd
      split at h
      · cases h
      · rename_i hi
        split at h
        · rename_i hb
          cases h
          have hb := Nat.eq_of_beq_eq_true hb
          subst hb
          refine ⟨_, ?_, okV_rel hy⟩
          simp only [Instr.typeAssert, Sem.run_bind, run_ty hd, Result.andThen_ok]
          cases d <;> first | (cases hi; done) | simp
        · rename_i hb
          have hb : ¬ u = t := fun e => by subst e; simp at hb
          split at h
          · split at h
            · rename_i z hz
              cases h
              obtain ⟨zz, h1, h2⟩ := zeroOf_ok (ρ := ρ) (w := w) hz
              refine ⟨_, ?_, okV_rel h2⟩
              simp only [Instr.typeAssert, Sem.run_bind, run_ty hd, Result.andThen_ok]
              cases d <;> first | (cases hi; done) | simp [hb, h1]
            · cases h
          · cases h
    · cases h
  · rw [RelV] at ha
    subst ha
    split at h
    · rename_i d hd
      split at h
      · cases h
      · rename_i hi
        split at h
        · split at h
          · rename_i z hz
            cases h
            obtain ⟨zz, h1, h2⟩ := zeroOf_ok (ρ := ρ) (w := w) hz
            refine ⟨_, ?_, okV_rel h2⟩
            simp only [Instr.typeAssert, Sem.run_bind, run_ty hd, Result.andThen_ok]
            cases d <;> first | (cases hi; done) | simp [h1]
          · cases h
        · cases h
    · cases h
  · cases h

/-! maps -/
def makeMapV (m : Mem) : V × Mem := (.mp m.nx, m.new (.oth (.mp [] 0)))
theorem makeMap_ok {P F w0 ρ m w} (h : RM F w0 ρ m w) (t : TypeId) : Does P F w0 ρ w (Instr.makeMap t none) (makeMapV m).1 (makeMapV m).2 := by
  obtain ⟨ρ', h1, h2, h3⟩ := h.newO (o := .mp [] 0) (x := .map #[] 0) ⟨[], rfl, rfl⟩
  exact ⟨ρ', _, _, h1, rfl, by rw [makeMapV, RelV]; exact ⟨_, _, h2, rfl⟩, h3⟩
/-- Is it a whole number's type? -/
def isIntD : TypeDesc → Bool
  | .int _ => true
  | _ => false
/-- Where a key stands (none: not told; a key of another kind). -/
def findV (k : IntKind) (n : Int) : List EV → Nat → Option (Option (Nat × V))
  | [], _ => some none
  | e :: es, i => match decide (k = e.k) with
    | true => match decide (n = e.n) with
      | true => some (some (i, e.v))
      | false => findV k n es (i + 1)
    | false => none
theorem find_rel {ρ : Rho} {k : IntKind} {n : Int} {d : TypeDesc} (hd : isIntD d = true) : ∀ {es : List EV} {xs : List MapEntry} {i : Nat} {o}, EsRel ρ es xs → findV k n es i = some o →
    (o = none ∧ Instr.findNow d (.int k n) xs i = some none) ∨ (∃ j v x, o = some (j, v) ∧ RelV ρ v x ∧ Instr.findNow d (.int k n) xs i = some (some (j, x)) ∧ ∃ e xe, es[j - i]? = some e ∧ xs[j - i]? = some xe ∧ i ≤ j ∧ xe.key = .int k n)
  | [], xs, i, o, hr, h => by
    have hr : xs = [] := hr
    subst hr
    cases h
    exact .inl ⟨rfl, rfl⟩
  | e :: es, xs, i, o, hr, h => by
    obtain ⟨x, ys, rfl, hk, hb, hv, hs⟩ := hr
    unfold findV at h
    split at h
    · rename_i hkk
      have hkk := of_decide_eq_true hkk
      have hsn : Instr.sameNow d (.int k n) x.key = some (n == e.n) := by
        rw [hk]
        cases d <;> first | (cases hd; done) | simp [Instr.sameNow, hkk]
      split at h
      · rename_i hnn
        have hnn := of_decide_eq_true hnn
        cases h
        refine .inr ⟨i, e.v, x.val, rfl, hv, ?_, e, x, by simp, by simp, Nat.le_refl _, by rw [hk, hkk, hnn]⟩
        rw [Instr.findNow, hsn, hnn]; simp
      · rename_i hnn
        have hnn := of_decide_eq_false hnn
        have ih := find_rel hd hs h
        have e0 : (n == e.n) = false := by simpa using hnn
        have en : ∀ {r}, Instr.findNow d (.int k n) ys (i + 1) = r → Instr.findNow d (.int k n) (x :: ys) i = r := fun {r} hh => by
          rw [Instr.findNow, hsn, e0]; exact hh
        rcases ih with ⟨h1, h2⟩ | ⟨j, v, y, h1, h2, h3, e', xe, h4, h5, h6, h7⟩
        · exact .inl ⟨h1, en h2⟩
        · refine .inr ⟨j, v, y, h1, h2, en h3, e', xe, ?_, ?_, by omega, h7⟩
          · rw [show j - i = (j - (i + 1)) + 1 by omega, List.getElem?_cons_succ]; exact h4
          · rw [show j - i = (j - (i + 1)) + 1 by omega, List.getElem?_cons_succ]; exact h5
    · cases h
def intMap (P : Program) (t : TypeId) : Option (TypeId × TypeId × TypeDesc) := match P.underlying t with
  | some (.map k e) => match P.underlying k with
    | some d => match isIntD d with
      | true => some (k, e, d)
      | false => none
    | none => none
  | _ => none
theorem intMap_ok {P : Program} {t k e d} (h : intMap P t = some (k, e, d)) : P.underlying t = some (.map k e) ∧ P.underlying k = some d ∧ isIntD d = true := by
  unfold intMap at h
  split at h
  · rename_i k' e' hu
    split at h
    · rename_i d' hd
      split at h
      · rename_i hi; cases h; exact ⟨hu, hd, hi⟩
      · cases h
    · cases h
  · cases h
theorem run_checkKey {P : Program} {k d} {w : World} (hk : P.underlying k = some d) (hd : isIntD d = true) (b : Bool) (i : IntKind) (n : Int) : (Instr.checkKey b 10000 k (.int i n)).run P w = .ok () w := by
  rw [show (10000 : Nat) = 9999 + 1 from rfl, Instr.checkKey]
  simp only [Sem.run_bind, run_ty hk, Result.andThen_ok]
  cases d <;> first | (cases hd; done) | rfl
theorem run_findKey {P : Program} {k d} {w : World} (hk : P.underlying k = some d) {x : Value} {es : List MapEntry} {r} (h : Instr.findNow d x es 0 = some r) : (Instr.findKey k x es).run P w = .ok r w := by
  unfold Instr.findKey
  simp only [Sem.run_bind, run_ty hk, Result.andThen_ok, h, Sem.run_pure]
def lookEs (P : Program) (e : TypeId) (ok : Bool) (k : IntKind) (n : Int) (es : List EV) : Option V := match findV k n es 0 with
  | some (some (_, v)) => some (okV ok v true)
  | some none => match zeroOf P e with
    | some z => some (okV ok z false)
    | none => none
  | none => none
def lookupV (P : Program) (t : TypeId) (ok : Bool) (x i : V) (m : Mem) : Option V := match i with
  | .int k n => match intMap P t with
    | some (_, e, _) => match x with
      | .nilm => lookEs P e ok k n []
      | .mp b => match m.t.get b with
        | some (.oth (.mp es _)) => lookEs P e ok k n es
        | _ => none
      | _ => none
    | none => none
  | _ => none
theorem getObj_run {P : Program} {w : World} {r : Nat} {es : Array MapEntry} {ck : Nat} (h : w.heap[r]? = some (.map es ck)) : (getObj r).run P w = .ok (.map es ck) w := by
  simp [getObj, Sem.run, h]
theorem setObj_run {P : Program} {w : World} {r : Nat} {es : Array MapEntry} {ck : Nat} {o' : Obj} (h : w.heap[r]? = some (.map es ck)) : (setObj r o').run P w = .ok () (w.putObj r o') := by
  simp [setObj, Sem.run, World.putObj, h]
theorem lookEs_ok {P : Program} {ρ : Rho} {w : World} {t k e d} (hm : intMap P t = some (k, e, d)) {ok : Bool} {i : IntKind} {n : Int} {es : List EV} {xs : List MapEntry} {v : V} (hr : EsRel ρ es xs) (h : lookEs P e ok i n es = some v) :
    ∃ o, (Instr.findKey k (.int i n) xs).run P w = .ok o w ∧ ((∃ j x, o = some (j, x) ∧ RelV ρ v (if ok = true then .tuple #[x, .bool true] else x)) ∨
      (o = none ∧ ∃ z, (zeroValue e).run P w = .ok z w ∧ RelV ρ v (if ok = true then .tuple #[z, .bool false] else z))) := by
  obtain ⟨h1, h2, h3⟩ := intMap_ok hm
  unfold lookEs at h
  split at h
  · rename_i j v' hf
    cases h
    rcases find_rel (ρ := ρ) h3 hr hf with ⟨h4, _⟩ | ⟨j', v2, x, h4, h5, h6, _⟩
    · cases h4
    · cases h4
      exact ⟨_, run_findKey h2 h6, .inl ⟨_, _, rfl, okV_rel h5⟩⟩
  · rename_i hf
    rcases find_rel (ρ := ρ) h3 hr hf with ⟨_, h6⟩ | ⟨j', v2, x, h4, _⟩
    · split at h
      · rename_i z hz
        cases h
        obtain ⟨zz, h7, h8⟩ := zeroOf_ok (ρ := ρ) (w := w) hz
        exact ⟨_, run_findKey h2 h6, .inr ⟨rfl, zz, h7, okV_rel h8⟩⟩
      · cases h
    · cases h4
  · cases h
theorem lookup_ok {P F w0 ρ m w} (hm : RM F w0 ρ m w) {t ok} {x i : V} {a b : Value} {v : V} (hx : RelV ρ x a) (hi : RelV ρ i b) (h : lookupV P t ok x i m = some v) : ∃ y, (Instr.lookup t a b ok).run P w = .ok y w ∧ RelV ρ v y := by
  unfold lookupV at h
  split at h
  · rename_i k n
    rw [RelV] at hi
    subst hi
    split at h
    · rename_i k' e d hmap
      have hu := (intMap_ok hmap).1
      have hk := (intMap_ok hmap).2.1
      have hd := (intMap_ok hmap).2.2
      split at h
      · rw [RelV] at hx
        subst hx
        obtain ⟨o, h1, h2⟩ := lookEs_ok (ρ := ρ) (w := w) hmap (xs := []) (by rw [EsRel]) h
        have h1 : (Instr.findKey k' (.int k n) (#[] : Array MapEntry).toList).run P w = .ok o w := h1
        rcases h2 with ⟨j, x, rfl, h2⟩ | ⟨rfl, z, hz, h2⟩
        · exact ⟨_, by simp only [Instr.lookup, Sem.run_bind, run_ty hu, Result.andThen_ok, Sem.run_pure, run_checkKey hk hd, h1], h2⟩
        · exact ⟨_, by simp only [Instr.lookup, Sem.run_bind, run_ty hu, Result.andThen_ok, Sem.run_pure, run_checkKey hk hd, h1, hz], h2⟩
      · rename_i bl
        rw [RelV] at hx
        obtain ⟨r, c, hr, rfl⟩ := hx
        split at h
        · rename_i es ck hblk
          obtain ⟨_, o, h3, xs, rfl, h4⟩ := hm.at hblk hr
          obtain ⟨o, h1, h2⟩ := lookEs_ok (ρ := ρ) (w := w) hmap h4 h
          have h1 : (Instr.findKey k' (.int k n) xs.toArray.toList).run P w = .ok o w := h1
          rcases h2 with ⟨j, x, rfl, h2⟩ | ⟨rfl, z, hz, h2⟩
          · exact ⟨_, by simp only [Instr.lookup, Sem.run_bind, run_ty hu, Result.andThen_ok, Sem.run_pure, getObj_run h3, run_checkKey hk hd, h1], h2⟩
          · exact ⟨_, by simp only [Instr.lookup, Sem.run_bind, run_ty hu, Result.andThen_ok, Sem.run_pure, getObj_run h3, run_checkKey hk hd, h1, hz], h2⟩
        · cases h
      · cases h
    · cases h
  · cases h
def setEs (v : V) : List EV → Nat → List EV
  | [], _ => []
  | e :: es, 0 => ⟨e.k, e.n, e.born, v⟩ :: es
  | e :: es, i + 1 => e :: setEs v es i
theorem setEs_rel {ρ : Rho} {v : V} {x : Value} (hv : RelV ρ v x) : ∀ {es : List EV} {xs : List MapEntry} {j : Nat} {k : IntKind} {n : Int} {xe : MapEntry}, EsRel ρ es xs → xs[j]? = some xe → xe.key = .int k n →
    EsRel ρ (setEs v es j) (xs.modify j fun e => { e with key := .int k n, val := x })
  | [], xs, j, k, n, xe, h, hj, _ => by have h : xs = [] := h; subst h; simp at hj
  | e :: es, xs, 0, k, n, xe, h, hj, hk => by
    obtain ⟨y, ys, rfl, h1, h2, h3, h4⟩ := h
    simp at hj
    subst hj
    exact ⟨_, _, rfl, by rw [← hk]; exact h1, h2, hv, h4⟩
  | e :: es, xs, j + 1, k, n, xe, h, hj, hk => by
    obtain ⟨y, ys, rfl, h1, h2, h3, h4⟩ := h
    simp at hj
    exact ⟨_, _, rfl, h1, h2, h3, setEs_rel hv h4 hj hk⟩
theorem EsRel.push {ρ : Rho} {k : IntKind} {n : Int} {ck : Nat} {v : V} {x : Value} (hv : RelV ρ v x) : ∀ {es : List EV} {xs : List MapEntry}, EsRel ρ es xs → EsRel ρ (es ++ [⟨k, n, ck, v⟩]) (xs ++ [{ key := .int k n, val := x, born := ck }])
  | [], xs, h => by have h : xs = [] := h; subst h; exact ⟨_, _, rfl, rfl, rfl, hv, rfl⟩
  | e :: es, xs, h => by
    obtain ⟨y, ys, rfl, h1, h2, h3, h4⟩ := h
    exact ⟨_, _, rfl, h1, h2, h3, EsRel.push hv h4⟩
def updEs (k : IntKind) (n : Int) (v : V) (es : List EV) (ck : Nat) : Option OB := match findV k n es 0 with
  | some (some (j, _)) => some (.mp (setEs v es j) ck)
  | some none => some (.mp (es ++ [⟨k, n, ck, v⟩]) (Nat.succ ck))
  | none => none
def updateV (P : Program) (t : TypeId) (x i v : V) (m : Mem) : Option Mem := match i with
  | .int k n => match intMap P t with
    | some _ => match x with
      | .mp b => match m.t.get b with
        | some (.oth (.mp es ck)) => match updEs k n v es ck with
          | some o => some (m.setO b o)
          | none => none
        | _ => none
      | _ => none
    | none => none
  | _ => none
theorem update_ok {P F w0 ρ m w} (hm : RM F w0 ρ m w) {t} {x i v : V} {a b c : Value} {m' : Mem} (hx : RelV ρ x a) (hi : RelV ρ i b) (hv : RelV ρ v c) (h : updateV P t x i v m = some m') : ∃ w', (Instr.mapUpdate t a b c).run P w = .ok () w' ∧ RM F w0 ρ m' w' := by
  unfold updateV at h
  split at h
  · rename_i k n
    rw [RelV] at hi
    subst hi
    split at h
    · rename_i p hmap
      obtain ⟨kt, e, d⟩ := p
      obtain ⟨hu, h2, hd⟩ := intMap_ok hmap
      split at h
      · rename_i bl
        rw [RelV] at hx
        obtain ⟨r, cc, hr, rfl⟩ := hx
        split at h
        · rename_i es ck hblk
          obtain ⟨_, o, h3, xs, rfl, h4⟩ := hm.at hblk hr
          split at h
          · rename_i o' ho'
            cases h
            unfold updEs at ho'
            split at ho'
            · rename_i j v' hf
              cases ho'
              rcases find_rel (ρ := ρ) hd h4 hf with ⟨h5, _⟩ | ⟨j', v2, x, h5, h6, h7, e', xe, h8, h9, _, h10⟩
              · cases h5
              · cases h5
                have h9 : xs[j]? = some xe := by simpa using h9
                refine ⟨_, ?_, hm.setO hblk hr (o' := .mp (setEs v es j) ck) (x := .map (xs.toArray.modify j fun e => { e with key := .int k n, val := c }) ck) ⟨xs.modify j fun e => { e with key := .int k n, val := c }, by congr 1; simp, setEs_rel hv h4 h9 h10⟩⟩
                have hkk : (((xs.toArray[j]?).map (·.key)).getD (.int k n)) = .int k n := by simp [h9, h10]
                have hsb : Instr.sameBits 10000 (.int k n) (.int k n) = true := by
                  rw [Instr.sameBits]; simp
                simp only [Instr.mapUpdate, Sem.run_bind, run_ty hu, Result.andThen_ok, getObj_run h3, run_checkKey h2 hd, run_findKey h2 (show Instr.findNow d (.int k n) xs.toArray.toList 0 = _ from h7), hkk, Instr.keyThatStays, hsb, if_true, Sem.run_pure, setObj_run h3]
            · rename_i hf
              cases ho'
              rcases find_rel (ρ := ρ) hd h4 hf with ⟨_, h7⟩ | ⟨j', v2, x, h5, _⟩
              · refine ⟨_, ?_, hm.setO hblk hr (o' := .mp (es ++ [⟨k, n, ck, v⟩]) (ck + 1)) (x := .map (xs.toArray.push { key := .int k n, val := c, born := ck }) (ck + 1)) ⟨_, by rw [List.push_toArray], EsRel.push hv h4⟩⟩
                simp only [Instr.mapUpdate, Sem.run_bind, run_ty hu, Result.andThen_ok, getObj_run h3, run_checkKey h2 hd, run_findKey h2 (show Instr.findNow d (.int k n) xs.toArray.toList 0 = _ from h7), Sem.run_pure, setObj_run h3]
              · cases h5
            · cases ho'
          · cases h
        · cases h
      · cases h
    · cases h
  · cases h
/-! entries -/
theorem keyEs_rel {ρ : Rho} : ∀ {es : List EV} {xs : List MapEntry} {j : Nat} {k : IntKind} {n : Int} {xe : MapEntry}, EsRel ρ es xs → xs[j]? = some xe → xe.key = .int k n →
    EsRel ρ es (xs.modify j fun e => { e with key := .int k n })
  | [], xs, j, k, n, xe, h, hj, _ => by have h : xs = [] := h; subst h; simp at hj
  | e :: es, xs, 0, k, n, xe, h, hj, hk => by
    obtain ⟨y, ys, rfl, h1, h2, h3, h4⟩ := h
    simp at hj
    subst hj
    exact ⟨_, _, rfl, by rw [← hk]; exact h1, h2, h3, h4⟩
  | e :: es, xs, j + 1, k, n, xe, h, hj, hk => by
    obtain ⟨y, ys, rfl, h1, h2, h3, h4⟩ := h
    simp at hj
    exact ⟨_, _, rfl, h1, h2, h3, keyEs_rel h4 hj hk⟩
theorem valEs_rel {ρ : Rho} {v : V} {x : Value} (hv : RelV ρ v x) : ∀ {es : List EV} {xs : List MapEntry} {j : Nat}, EsRel ρ es xs → EsRel ρ (setEs v es j) (xs.modify j fun e => { e with val := x })
  | [], xs, j, h => by have h : xs = [] := h; subst h; cases j <;> rfl
  | e :: es, xs, 0, h => by
    obtain ⟨y, ys, rfl, h1, h2, h3, h4⟩ := h
    exact ⟨_, _, rfl, h1, h2, hv, h4⟩
  | e :: es, xs, j + 1, h => by
    obtain ⟨y, ys, rfl, h1, h2, h3, h4⟩ := h
    exact ⟨_, _, rfl, h1, h2, h3, valEs_rel hv h4⟩
def bornAt : List EV → Nat → Nat
  | [], _ => 0
  | e :: _, 0 => e.born
  | _ :: es, j + 1 => bornAt es j
theorem bornAt_rel {ρ : Rho} : ∀ {es : List EV} {xs : List MapEntry} {j : Nat} {xe : MapEntry}, EsRel ρ es xs → xs[j]? = some xe → xe.born = bornAt es j
  | [], xs, j, xe, h, hj => by have h : xs = [] := h; subst h; simp at hj
  | e :: es, xs, 0, xe, h, hj => by
    obtain ⟨y, ys, rfl, h1, h2, h3, h4⟩ := h
    simp at hj
    subst hj
    exact h2
  | e :: es, xs, j + 1, xe, h, hj => by
    obtain ⟨y, ys, rfl, h1, h2, h3, h4⟩ := h
    simp at hj
    have := bornAt_rel h4 hj
    exact this
def entryEs (P : Program) (e : TypeId) (k : IntKind) (n : Int) (es : List EV) (ck : Nat) : Option (V × OB) := match findV k n es 0 with
  | some (some (j, v)) => some (.tup [v, .int .i64 (.ofNat (bornAt es j))], .mp es ck)
  | some none => match zeroOf P e with
    | some z => some (.tup [z, .int .i64 (.ofNat ck)], .mp (es ++ [⟨k, n, ck, z⟩]) (Nat.succ ck))
    | none => none
  | none => none
def entryV (P : Program) (t : TypeId) (x i : V) (m : Mem) : Option (V × Mem) := match i with
  | .int k n => match intMap P t with
    | some (_, e, _) => match x with
      | .mp b => match m.t.get b with
        | some (.oth (.mp es ck)) => match entryEs P e k n es ck with
          | some (v, o) => some (v, m.setO b o)
          | none => none
        | _ => none
      | _ => none
    | none => none
  | _ => none
theorem entry_ok {P F w0 ρ m w} (hm : RM F w0 ρ m w) {t} {x i v : V} {a b : Value} {m' : Mem} (hx : RelV ρ x a) (hi : RelV ρ i b) (h : entryV P t x i m = some (v, m')) : Does P F w0 ρ w (Instr.mapEntry t a b) v m' := by
  unfold entryV at h
  split at h
  · rename_i k n
    rw [RelV] at hi
    subst hi
    split at h
    · rename_i kt e d hmap
      obtain ⟨hu, h2, hd⟩ := intMap_ok hmap
      split at h
      · rename_i bl
        rw [RelV] at hx
        obtain ⟨r, cc, hr, rfl⟩ := hx
        split at h
        · rename_i es ck hblk
          obtain ⟨_, o, h3, xs, rfl, h4⟩ := hm.at hblk hr
          split at h
          · rename_i v' o' ho'
            cases h
            unfold entryEs at ho'
            split at ho'
            · rename_i j v1 hf
              cases ho'
              rcases find_rel (ρ := ρ) hd h4 hf with ⟨h5, _⟩ | ⟨j', v2, x, h5, h6, h7, e', xe, h8, h9, _, h10⟩
              · cases h5
              · cases h5
                have h9 : xs[j]? = some xe := by simpa using h9
                have hb := bornAt_rel h4 h9
                refine ⟨ρ, .tuple #[x, .int .i64 (.ofNat (bornAt es j))], _, Ext.refl ρ, ?_, by rw [RelV]; exact ⟨[_, _], rfl, .cons h6 (.one RelV.int)⟩, hm.setO hblk hr (o' := .mp es ck) (x := .map (xs.toArray.modify j fun e => { e with key := .int k n }) ck) ⟨xs.modify j fun e => { e with key := .int k n }, by congr 1; simp, keyEs_rel h4 h9 h10⟩⟩
                have hkk : (((xs.toArray[j]?).map (·.key)).getD (.int k n)) = .int k n := by simp [h9, h10]
                have hbb : ((Option.map (fun x : MapEntry => (x.born : Int)) xs.toArray[j]?).getD 0) = Int.ofNat (bornAt es j) := by simp [h9, hb]
                have hsb : Instr.sameBits 10000 (.int k n) (.int k n) = true := by
                  rw [Instr.sameBits]; simp
                simp only [Instr.mapEntry, Sem.run_bind, run_ty hu, Result.andThen_ok, getObj_run h3, run_checkKey h2 hd, run_findKey h2 (show Instr.findNow d (.int k n) xs.toArray.toList 0 = _ from h7), hkk, Instr.keyThatStays, hsb, if_true, Sem.run_pure, setObj_run h3]
                rw [hbb]
                rfl
            · rename_i hf
              split at ho'
              · rename_i z hz
                cases ho'
                rcases find_rel (ρ := ρ) hd h4 hf with ⟨_, h7⟩ | ⟨j', v2, x, h5, _⟩
                · obtain ⟨zz, h8, h9⟩ := zeroOf_ok (ρ := ρ) (w := w) hz
                  refine ⟨ρ, .tuple #[zz, .int .i64 (.ofNat ck)], _, Ext.refl ρ, ?_, by rw [RelV]; exact ⟨[_, _], rfl, .cons h9 (.one RelV.int)⟩, hm.setO hblk hr (o' := .mp (es ++ [⟨k, n, ck, z⟩]) (ck + 1)) (x := .map (xs.toArray.push { key := .int k n, val := zz, born := ck }) (ck + 1)) ⟨_, by rw [List.push_toArray], EsRel.push h9 h4⟩⟩
                  simp only [Instr.mapEntry, Sem.run_bind, run_ty hu, Result.andThen_ok, getObj_run h3, run_checkKey h2 hd, run_findKey h2 (show Instr.findNow d (.int k n) xs.toArray.toList 0 = _ from h7), h8, Sem.run_pure, setObj_run h3]
                  rfl
                · cases h5
              · cases ho'
            · cases ho'
          · cases h
        · cases h
      · cases h
    · cases h
  · cases h
def findBorn (n : Nat) : List EV → Nat → Option Nat
  | [], _ => none
  | e :: es, i => match Nat.beq e.born n with
    | true => some i
    | false => findBorn n es (Nat.succ i)
theorem findBorn_rel {ρ : Rho} {n : Nat} : ∀ {es : List EV} {xs : List MapEntry} {i j : Nat}, EsRel ρ es xs → findBorn n es i = some j → ∃ k, j = i + k ∧ xs.findIdx? (fun e => (e.born : Int) == (Int.ofNat n)) = some k
  | [], xs, i, j, _, h => by cases h
  | e :: es, xs, i, j, hr, h => by
    obtain ⟨y, ys, rfl, h1, h2, h3, h4⟩ := hr
    unfold findBorn at h
    split at h
    · rename_i hb
      cases h
      have hb := Nat.eq_of_beq_eq_true hb
      refine ⟨0, rfl, ?_⟩
      rw [List.findIdx?_cons]
      have : ((y.born : Int) == Int.ofNat n) = true := by rw [h2, hb]; simp
      rw [this]; rfl
    · rename_i hb
      have hb : e.born ≠ n := fun e0 => by rw [e0] at hb; simp at hb
      obtain ⟨k, h5, h6⟩ := findBorn_rel h4 h
      refine ⟨k + 1, by omega, ?_⟩
      rw [List.findIdx?_cons]
      have : ((y.born : Int) == Int.ofNat n) = false := by
        rw [h2, beq_eq_false_iff_ne]
        intro e0
        exact hb (Int.ofNat.inj e0)
      rw [this, h6]; rfl
def enstoreV (x i v : V) (m : Mem) : Option Mem := match i with
  | .int .i64 (.ofNat n) => match x with
    | .mp b => match m.t.get b with
      | some (.oth (.mp es ck)) => match findBorn n es 0 with
        | some j => some (m.setO b (.mp (setEs v es j) ck))
        | none => none
      | _ => none
    | _ => none
  | _ => none
theorem enstore_ok {P F w0 ρ m w} (hm : RM F w0 ρ m w) {t} {x i v : V} {a b c : Value} {m' : Mem} (hx : RelV ρ x a) (hi : RelV ρ i b) (hv : RelV ρ v c) (h : enstoreV x i v m = some m') : ∃ w', (Instr.entryStore t a b c).run P w = .ok () w' ∧ RM F w0 ρ m' w' := by
  unfold enstoreV at h
  split at h
  · rename_i n
    rw [RelV] at hi
    subst hi
    split at h
    · rename_i bl
      rw [RelV] at hx
      obtain ⟨r, cc, hr, rfl⟩ := hx
      split at h
      · rename_i es ck hblk
        obtain ⟨_, o, h3, xs, rfl, h4⟩ := hm.at hblk hr
        split at h
        · rename_i j hj
          cases h
          obtain ⟨k, e1, e2⟩ := findBorn_rel h4 hj
          have e1 : j = k := by omega
          subst e1
          refine ⟨_, ?_, hm.setO hblk hr (o' := .mp (setEs v es j) ck) (x := .map (xs.toArray.modify j fun e => { e with val := c }) ck) ⟨xs.modify j fun e => { e with val := c }, by congr 1; simp, valEs_rel hv h4⟩⟩
          have e3 : xs.toArray.findIdx? (fun e => (e.born : Int) == (Int.ofNat n)) = some j := by simpa using e2
          simp only [Instr.entryStore, Sem.run_bind, Result.andThen_ok, getObj_run h3, Sem.run_pure, asInt, asIntOf, e3, setObj_run h3]
        · cases h
      · cases h
    · cases h
  · cases h
end Go.CE
