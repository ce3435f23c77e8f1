/-
  CLOSED EVALUATION, 3: the operations on values and memory.
-/
import Derived.Test.YtbkclmbfblncoaaGreatDoorCeB
noncomputable section
namespace Go.CE
open Go

/-- s, run at w, comes to v and m'. -/
def Does (P : Program) (F : Fx) (w0 : World) (ρ : Rho) (w : World) (s : Sem Value) (v : V) (m' : Mem) : Prop :=
  ∃ ρ' x w', Ext ρ ρ' ∧ s.run P w = .ok x w' ∧ RelV ρ' v x ∧ RM F w0 ρ' m' w'
theorem Does.same {P F w0 ρ w s v m x} (h : s.run P w = .ok x w) (hv : RelV ρ v x) (hm : RM F w0 ρ m w) : Does P F w0 ρ w s v m := ⟨ρ, x, w, Ext.refl ρ, h, hv, hm⟩

section
variable {P : Program} {w : World}
theorem run_ty {t : TypeId} {d : TypeDesc} (h : P.underlying t = some d) : (underlying t).run P w = .ok d w := run_underlying h w
theorem run_info {t : TypeId} {i : TypeInfo} (h : P.info? t = some i) : (typeInfo t).run P w = .ok i w := by simp [typeInfo, h]
theorem run_size {t : TypeId} {i : TypeInfo} (h : P.info? t = some i) : (sizeOf t).run P w = .ok i.size w := by simp [sizeOf, run_info h]
theorem run_zero {t : TypeId} {i : TypeInfo} {z : Value} (h : P.info? t = some i) (hz : i.zero = some z) : (zeroValue t).run P w = .ok z w := by simp [zeroValue, run_info h, hz]
end

/-! constants -/
def mapO {α β : Type} (f : α → Option β) (l : List α) : Option (List β) :=
  List.rec (motive := fun _ => Option (List β)) (some []) (fun x _ ih => consO (f x) ih) l
theorem mapO_nil {α β : Type} (f : α → Option β) : mapO f [] = some [] := rfl
theorem mapO_cons {α β : Type} (f : α → Option β) (x : α) (xs : List α) : mapO f (x :: xs) = consO (f x) (mapO f xs) := rfl
def V.ofC : Nat → Value → Option V
  | 0, _ => none
  | _ + 1, .bool b => some (.bool b)
  | _ + 1, .int k n => some (.int k n)
  | _ + 1, .string s => some (.str s.data.toList)
  | _ + 1, .pointer none => some .nilp
  | _ + 1, .slice none 0 0 => some .nils
  | _ + 1, .map none => some .nilm
  | _ + 1, .nilFunc => some .nilf
  | _ + 1, .nilIface => some .nili
  | f + 1, .func g xs ys => match mapO (ofC f) xs.toList, mapO (ofC f) ys.toList with
    | some a, some b => some (.fn g a b)
    | _, _ => none
  | f + 1, .iface t v => match ofC f v with
    | some a => some (.ifc t a)
    | none => none
  | f + 1, .agg cs => match mapO (ofC f) cs.toList with
    | some a => some (.agg a)
    | none => none
  | f + 1, .tuple cs => match mapO (ofC f) cs.toList with
    | some a => some (.tup a)
    | none => none
  | _ + 1, _ => none
theorem mapO_rel {ρ : Rho} {f : Value → Option V} (h : ∀ x v, f x = some v → RelV ρ v x) : ∀ (xs : List Value) (vs : List V), mapO f xs = some vs → RelL ρ vs xs
  | [], vs, e => by rw [mapO_nil] at e; cases e; exact .nil
  | x :: xs, vs, e => by
    rw [mapO_cons] at e
    obtain ⟨y, ys, hy, hys, rfl⟩ := consO_some e
    exact .cons (h x y hy) (mapO_rel h xs ys hys)
theorem ofC_rel {ρ : Rho} : ∀ (f : Nat) (x : Value) (v : V), V.ofC f x = some v → RelV ρ v x
  | 0, _, _, e => by cases e
  | f + 1, x, v, e => by
    have ih := mapO_rel (ofC_rel (ρ := ρ) f)
    cases x with
    | bool b => cases e; simp [RelV]
    | int k n => cases e; simp [RelV]
    | float _ _ => cases e
    | complex _ _ _ => cases e
    | string s => cases e; simp [RelV]
    | pointer a => cases a with
      | none => cases e; simp [RelV]
      | some a => cases e
    | slice a n c => cases a with
      | none => cases n <;> cases c <;> first | (cases e; simp [RelV]; done) | cases e
      | some a => cases e
    | map r => cases r with
      | none => cases e; simp [RelV]
      | some a => cases e
    | chan r => cases e
    | func g xs ys =>
      simp only [V.ofC] at e
      split at e
      · rename_i a b ha hb
        cases e
        rw [RelV]
        exact ⟨xs.toList, ys.toList, by simp, ih _ _ ha, ih _ _ hb⟩
      · cases e
    | nilFunc => cases e; simp [RelV]
    | iface t y =>
      simp only [V.ofC] at e
      split at e
      · rename_i a ha
        cases e
        rw [RelV]
        exact ⟨y, rfl, ofC_rel f y a ha⟩
      · cases e
    | nilIface => cases e; simp [RelV]
    | agg cs =>
      simp only [V.ofC] at e
      split at e
      · rename_i a ha
        cases e
        rw [RelV]
        exact ⟨cs.toList, by simp, ih _ _ ha⟩
      · cases e
    | tuple cs =>
      simp only [V.ofC] at e
      split at e
      · rename_i a ha
        cases e
        rw [RelV]
        exact ⟨cs.toList, by simp, ih _ _ ha⟩
      · cases e

/-- A constant. -/
def constV : Value → Option V
  | .int k n => some (.int k n)
  | .bool b => some (.bool b)
  | v => V.ofC 20 v
theorem constV_rel {ρ : Rho} {x : Value} {v : V} (h : constV x = some v) : RelV ρ v x := by
  unfold constV at h
  split at h
  · cases h; rw [RelV]
  · cases h; rw [RelV]
  · exact ofC_rel 20 _ _ h
/-! cells of a value -/
def V.cells : V → List V
  | .agg l => l
  | v => [v]
theorem cells_rel {ρ : Rho} {v : V} {x : Value} (h : RelV ρ v x) : RelL ρ v.cells x.cells.toList := by
  cases v with
  | agg l => rw [RelV] at h; obtain ⟨xs, rfl, h⟩ := h; simpa [V.cells, Value.cells] using h
  | _ =>
    have hc : x.cells = #[x] := by
      simp only [RelV] at h
      first
        | (subst h; rfl)
        | (obtain ⟨_, _, _, rfl⟩ := h; rfl)
        | (obtain ⟨_, _, _, rfl, _⟩ := h; rfl)
        | (obtain ⟨_, _, rfl, _⟩ := h; rfl)
        | (obtain ⟨_, rfl, _⟩ := h; rfl)
    rw [hc]
    exact .one h

/-! loads and stores -/
def aggD : TypeDesc → Bool
  | .struct _ => true
  | .array _ _ => true
  | _ => false
theorem run_isAgg {P : Program} {w : World} {t : TypeId} {d : TypeDesc} (h : P.underlying t = some d) : (isAgg t).run P w = .ok (aggD d) w := by
  unfold isAgg
  rw [Sem.run_bind, run_ty h, Result.andThen_ok]
  cases d <;> rfl
def intCells (k : IntKind) (cs : Tr Int) : Nat → Nat → List V
  | 0, _ => []
  | n + 1, o => .int k (intAt cs o) :: intCells k cs n (Nat.succ o)
theorem intCells_get (k : IntKind) (cs : Tr Int) : ∀ (n o : Nat), (intCells k cs n o).length = n ∧ ∀ j, j < n → (intCells k cs n o)[j]? = some (.int k (intAt cs (o + j)))
  | 0, o => ⟨rfl, fun j hj => by omega⟩
  | n + 1, o => by
    obtain ⟨h1, h2⟩ := intCells_get k cs n (o + 1)
    refine ⟨by rw [intCells, List.length_cons, h1], fun j hj => ?_⟩
    cases j with
    | zero => simp [intCells]
    | succ j =>
      rw [intCells, List.getElem?_cons_succ, h2 j (by omega), show o + 1 + j = o + (j + 1) by omega]
theorem lt_blt' {a b : Nat} (h : a < b) : Nat.blt a b = true := Nat.ble_eq_true_of_le h
def Mem.cells (m : Mem) (b o n : Nat) : Option (List V) :=
  match m.t.get b with
  | some (.row _ _ _ cs) => cs.take n o
  | some (.gro _ _ _ cs) => cs.take n o
  | some (.ints k N cs) => match Nat.ble (o + n) N with
    | true => some (intCells k cs n o)
    | false => none
  | some (.oth _) => none
  | none => none
theorem Mem.cells_get {m : Mem} {b o n : Nat} {vs : List V} (h : m.cells b o n = some vs) : vs.length = n ∧ ∀ j, j < n → m.cell? b (o + j) = vs[j]? := by
  unfold Mem.cells at h
  unfold Mem.cell?
  split at h
  · rename_i hb; rw [hb]; exact Tr.take_get _ _ _ _ h
  · rename_i hb; rw [hb]; exact Tr.take_get _ _ _ _ h
  · rename_i k N cs hb
    rw [hb]
    split at h
    · rename_i hN
      cases h
      have hN := Nat.le_of_ble_eq_true hN
      obtain ⟨h1, h2⟩ := intCells_get k cs n o
      exact ⟨h1, fun j hj => by rw [h2 j hj]; simp only [lt_blt' (show o + j < N by omega)]⟩
    · cases h
  · cases h
  · cases h
theorem add_at (r o j : Nat) : (⟨r, o, none⟩ : Addr).add j = ⟨r, o + j, none⟩ := by
  unfold Addr.add; split
  · subst_vars; rfl
  · rfl
theorem RM.cells {F w0 ρ m w} (h : RM F w0 ρ m w) {b o n r c vs} (hr : ρ b = some (r, c)) (hc : m.cells b o n = some vs) :
    ∃ xs : List Value, xs.length = n ∧ RelL ρ vs xs ∧ ∀ j x, xs[j]? = some x → w.cell? ((⟨r, o, none⟩ : Addr).add j) = some x := by
  obtain ⟨hl, hg⟩ := Mem.cells_get hc
  have hex : ∀ j, j < n → ∃ x, w.cell? ⟨r, o + j, none⟩ = some x ∧ ∀ v, vs[j]? = some v → RelV ρ v x := by
    intro j hj
    have h1 := hg j hj
    have h2 : vs[j]? = some vs[j] := List.getElem?_eq_getElem (by omega)
    rw [h2] at h1
    obtain ⟨x, h3, h4⟩ := h.cell hr h1
    exact ⟨x, h3, fun v hv => by rw [h2] at hv; cases hv; exact h4⟩
  refine ⟨(List.range n).map fun j => ((w.cell? ⟨r, o + j, none⟩).getD undef), by simp, RelL.of_get (by simp [hl]) fun i a y h1 h2 => ?_, fun j x hj => ?_⟩
  · have hi : i < n := by
      have := (List.getElem?_eq_some_iff.1 h1).1; omega
    obtain ⟨x, h3, h4⟩ := hex i hi
    simp [hi, h3] at h2
    subst h2
    exact h4 a h1
  · have hi : j < n := by
      have := (List.getElem?_eq_some_iff.1 hj).1; simpa using this
    obtain ⟨y, h3, h4⟩ := hex j hi
    simp [hi, h3] at hj
    subst hj
    rw [add_at]; exact h3

def loadV (P : Program) (t : TypeId) (a : V) (m : Mem) : Option V :=
  match a with
  | .ptr b o => match P.underlying t with
    | none => none
    | some d => match aggD d with
      | true => match P.info? t with
        | some i => match m.cells b o i.size with
          | some l => some (.agg l)
          | none => none
        | none => none
      | false => m.cell? b o
  | .pin b o => match P.underlying t with
    | none => none
    | some d => match aggD d with
      | true => none
      | false => m.cellP? b o
  | _ => none
theorem load_ok {P F w0 ρ m w t a x v} (h : RM F w0 ρ m w) (ha : RelV ρ a x) (hl : loadV P t a m = some v) : ∃ y, (Instr.loadAt t x).run P w = .ok y w ∧ RelV ρ v y := by
  unfold loadV at hl
  split at hl
  · rename_i b o
    rw [RelV] at ha
    obtain ⟨r, c, hr, rfl⟩ := ha
    split at hl
    · cases hl
    · rename_i d hd
      split at hl
      · rename_i hg
        split at hl
        · rename_i i hi
          split at hl
          · rename_i l hcs
            cases hl
            obtain ⟨xs, h1, h2, h3⟩ := h.cells hr hcs
            refine ⟨.agg xs.toArray, ?_, by rw [RelV]; exact ⟨xs, rfl, h2⟩⟩
            have := run_loadCells_list (P := P) (w := w) ⟨r, o, none⟩ xs h3
            rw [h1] at this
            simp [Instr.loadAt, Instr.sureAddr, loadVar, run_isAgg hd, hg, run_size hi, this]
          · cases hl
        · cases hl
      · rename_i hg
        obtain ⟨y, h1, h2⟩ := h.cell hr hl
        exact ⟨y, by simp [Instr.loadAt, Instr.sureAddr, loadVar, run_isAgg hd, hg, h1], h2⟩
  · rename_i b o
    rw [RelV] at ha
    obtain ⟨r, c, hr, rfl, ho⟩ := ha
    split at hl
    · cases hl
    · rename_i d hd
      split at hl
      · cases hl
      · rename_i hg
        obtain ⟨y, h1, h2⟩ := h.cellP hr ho hl
        exact ⟨y, by simp [Instr.loadAt, Instr.sureAddr, loadVar, run_isAgg hd, hg, h1], h2⟩
  · cases hl

def Mem.puts (m : Mem) (b : Nat) : List V → Nat → Option Mem
  | [], _ => some m
  | v :: vs, o => match v.one with
    | false => none
    | true => match m.put b o v with
      | none => none
      | some m' => Mem.puts m' b vs (Nat.succ o)
theorem puts_ok {P F w0 ρ} {r c b : Nat} (hr : ρ b = some (r, c)) (o : Nat) : ∀ (vs : List V) (xs : List Value) (j : Nat) (m m' : Mem) (w : World), RM F w0 ρ m w → RelL ρ vs xs → m.puts b vs (o + j) = some m' →
    ∃ w', (storeCells ⟨r, o, none⟩ xs j).run P w = .ok () w' ∧ RM F w0 ρ m' w' ∧ w'.heap.size = w.heap.size
  | [], xs, j, m, m', w, h, hv, hm => by
    rw [RelL] at hv; subst hv
    rw [Mem.puts] at hm; cases hm
    exact ⟨w, by simp [storeCells], h, rfl⟩
  | v :: vs, xs, j, m, m', w, h, hv, hm => by
    rw [RelL] at hv
    obtain ⟨x, ys, rfl, h1, h2⟩ := hv
    rw [Mem.puts] at hm
    split at hm
    · cases hm
    · rename_i ho
      split at hm
      · cases hm
      · rename_i m1 hm1
        obtain ⟨⟨y, hy⟩, hf, hw⟩ := h.put hr hm1 h1
        obtain ⟨w', h3, h4, h5⟩ := puts_ok (P := P) hr o vs ys (j + 1) m1 m' _ hw h2 hm
        refine ⟨w', ?_, h4, by simpa using h5⟩
        rw [storeCells, Sem.run_bind, run_store _ _ _ _ _ (V.one_rel h1 ho), add_at, hy]
        simp [hf, h3]
def storeV (P : Program) (t : TypeId) (a v : V) (m : Mem) : Option Mem :=
  match a with
  | .ptr b o => match P.info? t with
    | some i => match Nat.beq v.cells.length i.size with
      | true => m.puts b v.cells o
      | false => none
    | none => none
  | .pin b o => match P.info? t with
    | some i => match Nat.beq 1 i.size && (Nat.beq v.cells.length 1 && v.one) with
      | true => m.putP b o v
      | false => none
    | none => none
  | _ => none
theorem store_ok {P F w0 ρ m w t a x v y m'} (h : RM F w0 ρ m w) (ha : RelV ρ a x) (hv : RelV ρ v y) (hl : storeV P t a v m = some m') : ∃ w', (Instr.storeAt t x y).run P w = .ok () w' ∧ RM F w0 ρ m' w' ∧ w'.heap.size = w.heap.size := by
  unfold storeV at hl
  split at hl
  · rename_i b o
    rw [RelV] at ha
    obtain ⟨r, c, hr, rfl⟩ := ha
    split at hl
    · rename_i i hi
      split at hl
      · rename_i hs
        have hs : v.cells.length = i.size := Nat.eq_of_beq_eq_true hs
        obtain ⟨w', h1, h2, h3⟩ := puts_ok (P := P) hr o v.cells y.cells.toList 0 m m' w h (cells_rel hv) hl
        refine ⟨w', ?_, h2, h3⟩
        have hsz : y.cells.size = i.size := by rw [← hs, (cells_rel hv).length]; simp
        simp [Instr.storeAt, Instr.sureAddr, storeVar, run_size hi, hsz, h1]
      · cases hl
    · cases hl
  · rename_i b o
    rw [RelV] at ha
    obtain ⟨r, c, hr, rfl, ho⟩ := ha
    split at hl
    · rename_i i hi
      split at hl
      · rename_i hs
        rw [Bool.and_eq_true, Bool.and_eq_true] at hs
        have hs1 : 1 = i.size := Nat.eq_of_beq_eq_true hs.1
        have hs2 : v.cells.length = 1 := Nat.eq_of_beq_eq_true hs.2.1
        obtain ⟨⟨z, hz⟩, hf, hw⟩ := h.putP hr ho hl hv
        refine ⟨_, ?_, hw, by simp⟩
        have hone := V.one_rel hv hs.2.2
        have hc : y.cells = #[y] := by cases y <;> simp_all [Value.cells, Value.oneCell']
        simp only [Instr.storeAt, Instr.sureAddr, storeVar, Sem.run_bind, Sem.run_pure, Result.andThen_ok, run_size hi, hc]
        have e1 : (#[y] : Array Value).size = i.size := by simpa using hs1
        simp only [e1, ne_eq, not_true_eq_false, if_false]
        rw [storeCells, Sem.run_bind, run_store _ _ _ _ _ hone]
        have hz' : w.cell? ((⟨r, o, none⟩ : Addr).add 0) = some z := by rw [add_at]; exact hz
        have hf' : w.frozen? ((⟨r, o, none⟩ : Addr).add 0) = false := by rw [add_at]; exact hf
        have ea : (⟨r, o, none⟩ : Addr).add 0 = ⟨r, o, none⟩ := by rw [add_at]; rfl
        simp [hz, hf, ea, storeCells]
      · cases hl
    · cases hl
  · cases hl

/-! new variables -/
def newV (t : TypeId) (v : V) (m : Mem) : V × Mem := (.ptr m.nx 0, m.new (.row true t v.cells.length (Tr.fill v.cells 0 .nil)))
theorem new_ok {P F w0 ρ m w t v x} (h : RM F w0 ρ m w) (hv : RelV ρ v x) : Does P F w0 ρ w (do pure (.pointer (some (← newVar t x)))) (newV t v m).1 (newV t v m).2 := by
  obtain ⟨ρ', h1, h2, h3, h4⟩ := h.newRow t (cells_rel hv)
  exact ⟨ρ', .pointer (some ⟨w.heap.size, 0, none⟩), w.alloc (.cells x.cells t), h1, by simp [newVar, newRow], h2, by simpa [newV] using h4⟩
def allocV (P : Program) (t : TypeId) (m : Mem) : Option (V × Mem) :=
  match P.info? t with
  | none => none
  | some i => match i.zero with
    | none => none
    | some z => match V.ofC 20 z with
      | none => none
      | some v => some (newV t v m)
theorem alloc_ok {P F w0 ρ m w t v m'} (h : RM F w0 ρ m w) (he : allocV P t m = some (v, m')) : Does P F w0 ρ w (Instr.alloc t true (.tuple #[])) v m' := by
  unfold allocV at he
  split at he
  · cases he
  · rename_i i hi
    split at he
    · cases he
    · rename_i z hz
      split at he
      · cases he
      · rename_i u hu
        cases he
        obtain ⟨ρ', x, w', h1, h2, h3, h4⟩ := new_ok (P := P) (t := t) h (ofC_rel 20 z u hu)
        exact ⟨ρ', x, w', h1, by simpa [Instr.alloc, run_zero hi hz] using h2, h3, h4⟩
theorem box_ok {P F w0 ρ m w t v x} (h : RM F w0 ρ m w) (hv : RelV ρ v x) : Does P F w0 ρ w (Instr.box t x) (newV t v m).1 (newV t v m).2 := new_ok h hv
end Go.CE
