/-
  CLOSED EVALUATION, 23: functions that the model carries out by itself.
-/
import Derived.Test.YtbkclmbfblncoaaGreatDoorCeV
import Derived.Lib.MakeNoZero
noncomputable section
namespace Go.CE
open Go Go.RowKit
set_option linter.unusedSimpArgs false
set_option linter.unusedVariables false

section
variable {P : Program} {f : FuncId} {fn : Func} (hf : P.funcs[f]? = some fn) (hname : (fn.name == "runtime.NumGoroutine") = false) (hb : fn.body.isNone = true) (hn : Extern.findNext fn = none)
/-- internal/abi.NoEscape. -/
def noEscX : List V → Mem → Option (V × Mem)
  | [x], m => some (x, m)
  | _, _ => none
theorem noEscX_ok {P : Program} {f : FuncId} {fn : Func} (hf : P.funcs[f]? = some fn) (hname : (fn.name == "runtime.NumGoroutine") = false) (hb : fn.body.isNone = true) (hn : Extern.findNext fn = none)
    (hx : Extern.find fn = some Extern.AbiNoEscape.same) {us : List V} {m m' : Mem} {v : V} (he : noEscX us m = some (v, m')) {F : Fx} {w0 w : World} {ρ : Rho} {xs : List Value} (hm : RM F w0 ρ m w) (ha : RelL ρ us xs) :
    ∃ ρ' x w', Ext ρ ρ' ∧ (callFunc f (List.toArray xs)).run P w = .ok (.value x) w' ∧ RelV ρ' v x ∧ RM F w0 ρ' m' w' := by
  unfold noEscX at he
  split at he
  · cases he
    rw [RelL] at ha
    obtain ⟨x, ys, rfl, r1, ha⟩ := ha
    rw [RelL] at ha
    subst ha
    refine ⟨ρ, x, w, Ext.refl ρ, ?_, r1, hm⟩
    rw [run_callFunc_extern hf hname hb hn hx]
    rfl
  · cases he
/-- internal/bytealg.IndexByteString. -/
def idxB (c : UInt8) : List UInt8 → Nat → Int
  | [], _ => .negSucc 0
  | b :: bs, i => match Nat.beq b.toNat c.toNat with
    | true => .ofNat i
    | false => idxB c bs (Nat.succ i)
def idxX : List V → Mem → Option (V × Mem)
  | [.str s, .int .u8 (.ofNat c)], m => some (.int .i64 (idxB (UInt8.ofNat c) s 0), m)
  | _, _ => none
theorem find_idx (s : List UInt8) (c : UInt8) : ∀ (l : List UInt8) (i : Nat), (∀ j, l[j]? = s[i + j]?) →
    (match (List.range' i l.length).find? fun i => (⟨s.toArray⟩ : ByteArray)[i]! == c with | some i => goInt i | none => goInt (-1)) = .int .i64 (idxB c l i)
  | [], i, _ => rfl
  | b :: bs, i, h => by
    have h0 : s[i]? = some b := by simpa using (h 0).symm
    have hb : (⟨s.toArray⟩ : ByteArray)[i]! = b := by
      have hlt : i < s.length := (List.getElem?_eq_some_iff.1 h0).1
      have hlt2 : i < (⟨s.toArray⟩ : ByteArray).size := by simpa [ByteArray.size] using hlt
      rw [getElem!_pos _ i hlt2]
      have : s[i] = b := (List.getElem?_eq_some_iff.1 h0).2
      simpa [ByteArray.getElem_eq_getElem_data] using this
    rw [List.length_cons, List.range'_succ, List.find?_cons, hb]
    unfold idxB
    cases hq : Nat.beq b.toNat c.toNat with
    | true =>
      have e : b = c := UInt8.toNat.inj (Nat.eq_of_beq_eq_true hq)
      subst e
      simp [goInt]
    | false =>
      have e : (b == c) = false := by
        rw [beq_eq_false_iff_ne]
        intro e
        subst e
        simp at hq
      rw [e]
      exact find_idx s c bs (i + 1) fun j => by
        have := h (j + 1)
        rw [List.getElem?_cons_succ] at this
        rw [this]; congr 1; omega
theorem idxX_ok {P : Program} {f : FuncId} {fn : Func} (hf : P.funcs[f]? = some fn) (hname : (fn.name == "runtime.NumGoroutine") = false) (hb : fn.body.isNone = true) (hn : Extern.findNext fn = none)
    (hx : Extern.find fn = some Extern.BytealgIndexByte.indexByte) {us : List V} {m m' : Mem} {v : V} (he : idxX us m = some (v, m')) {F : Fx} {w0 w : World} {ρ : Rho} {xs : List Value} (hm : RM F w0 ρ m w) (ha : RelL ρ us xs) :
    ∃ ρ' x w', Ext ρ ρ' ∧ (callFunc f (List.toArray xs)).run P w = .ok (.value x) w' ∧ RelV ρ' v x ∧ RM F w0 ρ' m' w' := by
  unfold idxX at he
  split at he
  · rename_i s c
    cases he
    rw [RelL] at ha
    obtain ⟨x1, ys1, rfl, r1, ha⟩ := ha
    rw [RelL] at ha
    obtain ⟨x2, ys2, rfl, r2, ha⟩ := ha
    rw [RelL] at ha
    subst ha
    simp only [RelV] at r1 r2
    subst r1
    subst r2
    refine ⟨ρ, _, w, Ext.refl ρ, ?_, (RelV.int (ρ := ρ) (k := .i64) (n := idxB (UInt8.ofNat c) s 0)), hm⟩
    rw [run_callFunc_extern hf hname hb hn hx]
    have hs := find_idx s (UInt8.ofNat c) s 0 (fun j => by rw [Nat.zero_add])
    have hr : List.range (⟨s.toArray⟩ : ByteArray).size = List.range' 0 s.length := by rw [List.range_eq_range']; simp [ByteArray.size]
    have hrun : (Extern.BytealgIndexByte.indexByte [Value.string ⟨s.toArray⟩, .int .u8 (.ofNat c)].toArray).run P w = .ok (match (List.range' 0 s.length).find? fun i => (⟨s.toArray⟩ : ByteArray)[i]! == UInt8.ofNat c with | some i => goInt i | none => goInt (-1)) w := by
      have hdef : Extern.BytealgIndexByte.indexByte [Value.string ⟨s.toArray⟩, .int .u8 (.ofNat c)].toArray = (do
          let b ← Extern.Bytes.bytesOf (Value.string ⟨s.toArray⟩)
          let c ← Extern.Bytes.asByte (.int .u8 (.ofNat c))
          match (List.range b.size).find? fun i => b[i]! == c with
          | some i => pure (goInt i)
          | none => pure (goInt (-1))) := rfl
      rw [hdef]
      simp only [Extern.Bytes.bytesOf, Extern.Bytes.asByte, Sem.run_bind, Sem.run_pure, Result.andThen_ok, hr]
      have ec : (Int.ofNat c).toNat.toUInt8 = UInt8.ofNat c := rfl
      rw [ec]
      cases (List.range' 0 s.length).find? fun i => (⟨s.toArray⟩ : ByteArray)[i]! == UInt8.ofNat c <;> rfl
    rw [hrun, hs]
    rfl
  · cases he
/-- internal/bytealg.MakeNoZero: what stands in the row nobody knows. -/
def mnzX (e : TypeId) : List V → Mem → Option (V × Mem)
  | [.int .i64 (.ofNat n)], m => match Nat.ble n 281474976710656 with
    | true => some (.sl m.nx 0 n (.mi 0), m.new (.gro e 1 0 .nil))
    | false => none
  | _, _ => none
theorem mnzX_ok {P : Program} {f : FuncId} {fn : Func} {ps : Array TypeId} {t e : TypeId} (hf : P.funcs[f]? = some fn) (hname : (fn.name == "runtime.NumGoroutine") = false) (hb : fn.body.isNone = true) (hn : Extern.findNext fn = none)
    (hx : Extern.find fn = some (Extern.BytealgMakeNoZero.makeNoZero ps #[t])) (ht : P.underlying t = some (.slice e)) {us : List V} {m m' : Mem} {v : V} (he : mnzX e us m = some (v, m')) {F : Fx} {w0 w : World} {ρ : Rho} {xs : List Value} (hm : RM F w0 ρ m w) (ha : RelL ρ us xs) :
    ∃ ρ' x w', Ext ρ ρ' ∧ (callFunc f (List.toArray xs)).run P w = .ok (.value x) w' ∧ RelV ρ' v x ∧ RM F w0 ρ' m' w' := by
  unfold mnzX at he
  split at he
  · rename_i n
    split at he
    · rename_i hn2
      have hn2 := Nat.le_of_ble_eq_true hn2
      cases he
      rw [RelL] at ha
      obtain ⟨x1, ys1, rfl, r1, ha⟩ := ha
      rw [RelL] at ha
      subst ha
      simp only [RelV] at r1
      subst r1
      obtain ⟨cs, hrun, hle, _⟩ := Lib.run_makeNoZero (P := P) w ps t e ht n hn2
      obtain ⟨ρ', e1, e2, e3⟩ := hm.newGro (w1 := w.drew.drew) (t := e) (es := 1) (c := cs.size) (n := 0) (vs := []) (xs := []) (rest := cs.toList) (fr := (0, 0)) rfl (fun _ => rfl) rfl rfl rfl .nil rfl (by simp) (fun i hi => by simp)
      refine ⟨ρ', .slice (some ⟨w.heap.size, 0, none⟩) n cs.size, _, e1, ?_, by rw [RelV]; exact ⟨_, _, e2, rfl, hle⟩, e3⟩
      rw [run_callFunc_extern hf hname hb hn hx]
      have h2 : (Extern.BytealgMakeNoZero.makeNoZero ps #[t] [Value.int .i64 (.ofNat n)].toArray).run P w = _ := hrun
      rw [h2]
      simp [Result.andThen]
    · cases he
  · cases he
end
end Go.CE
