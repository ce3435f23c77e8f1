/-
  CLOSED EVALUATION, 5: slices, literals, conversions.
-/
import Derived.Test.YtbkclmbfblncoaaGreatDoorCeD
noncomputable section
namespace Go.CE
open Go
set_option linter.unusedSimpArgs false
set_option linter.unusedVariables false

/-! slices of slices, strings, arrays -/
def natOf : V → Option Nat
  | .int _ (.ofNat n) => some n
  | _ => none
theorem natOf_rel {ρ : Rho} {v x n} (h : natOf v = some n) (hv : RelV ρ v x) : ∃ k, x = .int k (n : Int) := by
  unfold natOf at h
  split at h
  · cases h; rw [RelV] at hv; exact ⟨_, hv⟩
  · cases h
/-- The bounds of a slice: from, to; a bound above is at most c. -/
def bndV (lo hi : Option V) (len c : Nat) : Option (Nat × Nat) :=
  match (match hi with
    | none => some len
    | some v => match natOf v with
      | some n => match Nat.ble n c with
        | true => some n
        | false => none
      | none => none) with
  | none => none
  | some h => match (match lo with
      | none => some 0
      | some v => natOf v) with
    | none => none
    | some l => match Nat.ble l h with
      | true => some (l, h)
      | false => none
def RelO (ρ : Rho) : Option V → Option Value → Prop
  | none, y => y = none
  | some v, y => ∃ x, y = some x ∧ RelV ρ v x
theorem bound_ok {P : Program} {w : World} {k : IntKind} {n y : Nat} {code} (h : n ≤ y) : (Instr.sliceBound (.int k (n : Int)) y code).run P w = .ok n w := by
  simp [Instr.sliceBound, asIntOf, h]
theorem bnd_ok {P : Program} {w : World} {ρ : Rho} {lo hi : Option V} {lo' hi' : Option Value} {len c cap l h : Nat} {b : Bool} (hlo : RelO ρ lo lo') (hhi : RelO ρ hi hi') (hc : c ≤ cap) (he : bndV lo hi len c = some (l, h)) :
    (Instr.sliceBounds b len cap lo' hi' none).run P w = .ok (l, h, cap) w ∧ l ≤ h ∧ (h ≤ c ∨ h = len) := by
  unfold bndV at he
  split at he
  · cases he
  · rename_i h1 hh
    have hH : h1 ≤ c ∨ h1 = len := by
      split at hh
      · cases hh; exact .inr rfl
      · split at hh
        · split at hh
          · rename_i hb; cases hh; exact .inl (Nat.le_of_ble_eq_true hb)
          · cases hh
        · cases hh
    split at he
    · cases he
    · rename_i l1 hl
      split at he
      · rename_i hb
        have hlh := Nat.le_of_ble_eq_true hb
        cases he
        refine ⟨?_, hlh, hH⟩
        have e2 : (match lo' with
          | some v => Instr.sliceBound v h .sliceB
          | none => pure 0 : Sem Nat).run P w = .ok l w := by
          cases lo with
          | none => rw [RelO] at hlo; subst hlo; cases hl; rfl
          | some v =>
            rw [RelO] at hlo
            obtain ⟨x, rfl, hx⟩ := hlo
            obtain ⟨k, rfl⟩ := natOf_rel hl hx
            exact bound_ok hlh
        cases hi with
        | none =>
          rw [RelO] at hhi; subst hhi; cases hh
          simp only [Instr.sliceBounds, Sem.run_bind, Sem.run_pure, Result.andThen_ok]
          cases lo' with
          | none => simp at e2; subst e2; simp
          | some u => simp only at e2; simp [e2]
        | some v =>
          rw [RelO] at hhi
          obtain ⟨x, rfl, hx⟩ := hhi
          simp only at hh
          split at hh
          · rename_i n hn
            split at hh
            · rename_i hb2
              cases hh
              obtain ⟨k, rfl⟩ := natOf_rel hn hx
              have e1 := bound_ok (P := P) (w := w) (k := k) (n := h) (y := cap) (code := if b = true then .sliceAcap else .sliceAlen) (Nat.le_trans (Nat.le_of_ble_eq_true hb2) hc)
              simp only [Instr.sliceBounds, Sem.run_bind, Sem.run_pure, Result.andThen_ok, e1]
              cases lo' with
              | none => simp at e2; subst e2; simp
              | some u => simp only at e2; simp [e2]
            · cases hh
          · cases hh
      · cases he

def sliceV (P : Program) (t : TypeId) (x : V) (lo hi : Option V) : Option V :=
  match x with
  | .str s => match P.underlying t with
    | some .string => match bndV lo hi s.length s.length with
      | some (l, h) => some (.str ((s.drop l).take (Nat.sub h l)))
      | none => none
    | _ => none
  | .nils => match P.underlying t with
    | some (.slice e) => match P.info? e with
      | some _ => match bndV lo hi 0 0 with
        | some _ => some .nils
        | none => none
      | none => none
    | _ => none
  | .sl b o len cp => match P.underlying t with
    | some (.slice e) => match P.info? e with
      | some ie => match cp with
        | .ex n => match bndV lo hi len n with
          | some (l, h) => match Nat.beq l n with
            | true => some (.sl b o 0 (.ex 0))
            | false => some (.sl b (Nat.add o (Nat.mul l ie.size)) (Nat.sub h l) (.ex (Nat.sub n l)))
          | none => none
        | .mi k => match bndV lo hi len len with
          | some (l, h) => match l with
            | 0 => some (.sl b o h (.mi k))
            | l' + 1 => match Nat.blt (l' + 1) len with
              | true => some (.sl b (Nat.add o (Nat.mul (l' + 1) ie.size)) (Nat.sub h (l' + 1)) (.mi (Nat.add k (l' + 1))))
              | false => none
          | none => none
      | none => none
    | _ => none
  | .ptr b o => match P.underlying t with
    | some (.array n e) => match P.info? e with
      | some ie => match bndV lo hi n n with
        | some (l, h) => match Nat.beq l n with
          | true => some (.sl b o 0 (.ex 0))
          | false => some (.sl b (Nat.add o (Nat.mul l ie.size)) (Nat.sub h l) (.ex (Nat.sub n l)))
        | none => none
      | none => none
    | _ => none
  | _ => none
theorem blt_lt {a b : Nat} (h : Nat.blt a b = true) : a < b := by
  have : Nat.ble (a + 1) b = true := h
  have := Nat.le_of_ble_eq_true this; omega
theorem slice_ok {P : Program} {w : World} {ρ : Rho} {t a x lo hi lo' hi' v} (ha : RelV ρ a x) (hlo : RelO ρ lo lo') (hhi : RelO ρ hi hi') (h : sliceV P t a lo hi = some v) : ∃ y, (Instr.sliceAt t x lo' hi' none).run P w = .ok y w ∧ RelV ρ v y := by
  unfold sliceV at h
  split at h
  · rename_i s
    rw [RelV] at ha; subst ha
    split at h
    · rename_i hu
      split at h
      · rename_i l h1 hb
        cases h
        have hsz : (⟨s.toArray⟩ : ByteArray).size = s.length := by simp [ByteArray.size]
        obtain ⟨e1, h2, h3⟩ := bnd_ok (P := P) (w := w) (b := false) hlo hhi (Nat.le_refl _) hb
        refine ⟨.string ((⟨s.toArray⟩ : ByteArray).extract l h1), ?_, ?_⟩
        · simp only [Instr.sliceAt, Instr.slice, Sem.run_bind, run_ty hu, Result.andThen_ok, hsz]
          simp [e1]
        · rw [RelV]
          congr 1
          apply ByteArray.ext
          rw [ByteArray.data_extract]
          apply Array.ext'
          simp only [Array.toList_extract, List.extract_eq_take_drop]
          rfl
      · cases h
    · cases h
  · rw [RelV] at ha; subst ha
    split at h
    · rename_i e hu
      split at h
      · rename_i ie hie
        split at h
        · rename_i p hb
          obtain ⟨l, h1⟩ := p
          cases h
          obtain ⟨e1, h2, h3⟩ := bnd_ok (P := P) (w := w) (b := true) hlo hhi (Nat.le_refl 0) hb
          have : h1 = 0 := by omega
          subst this
          have : l = 0 := by omega
          subst this
          exact ⟨.slice none 0 0, by simp [Instr.sliceAt, Instr.slice, run_ty hu, e1, run_size hie], by rw [RelV]⟩
        · cases h
      · cases h
    · cases h
  · rename_i b o len cp
    rw [RelV] at ha
    obtain ⟨r, c, hr, rfl, hle⟩ := ha
    split at h
    · rename_i e hu
      split at h
      · rename_i ie hie
        split at h
        · rename_i n
          simp only [Cap.val] at hle ⊢
          split at h
          · rename_i l h1 hb
            obtain ⟨e1, h2, h3⟩ := bnd_ok (P := P) (w := w) (b := true) hlo hhi (Nat.le_refl n) hb
            have h1n : h1 ≤ n := by omega
            split at h
            · rename_i hq
              have hq := Nat.eq_of_beq_eq_true hq
              cases h
              have e0 : h1 - l = 0 := by omega
              refine ⟨.slice (some ⟨r, o, none⟩) 0 0, ?_, by rw [RelV]; exact ⟨r, c, hr, rfl, Nat.le_refl _⟩⟩
              simp [Instr.sliceAt, Instr.slice, run_ty hu, e1, run_size hie, hq, e0]
              omega
            · rename_i hq
              have hq : ¬ n = l := fun e' => by subst e'; simp at hq
              cases h
              refine ⟨.slice (some ⟨r, o + l * ie.size, none⟩) (h1 - l) (n - l), ?_, by rw [RelV]; exact ⟨r, c, hr, rfl, by simp only [Cap.val]; show h1 - l ≤ n - l; omega⟩⟩
              simp [Instr.sliceAt, Instr.slice, run_ty hu, e1, run_size hie, hq, add_at]
          · cases h
        · rename_i k
          simp only [Cap.val] at hle ⊢
          split at h
          · rename_i l h1 hb
            obtain ⟨e1, h2, h3⟩ := bnd_ok (P := P) (w := w) (b := true) (cap := c - k) hlo hhi hle hb
            have h1n : h1 ≤ len := by omega
            split at h
            · cases h
              refine ⟨.slice (some ⟨r, o, none⟩) h1 (c - k), ?_, by rw [RelV]; exact ⟨r, c, hr, rfl, by simp only [Cap.val]; omega⟩⟩
              simp [Instr.sliceAt, Instr.slice, run_ty hu, e1, run_size hie, add_at]
            · rename_i l'
              split at h
              · rename_i hq
                have hq := blt_lt hq
                cases h
                have hne : ¬ (c - k = l' + 1) := by omega
                refine ⟨.slice (some ⟨r, o + (l' + 1) * ie.size, none⟩) (h1 - (l' + 1)) (c - k - (l' + 1)), ?_, by rw [RelV]; exact ⟨r, c, hr, by simp only [Cap.val]; rw [Nat.sub_sub]; rfl, by simp only [Cap.val]; show h1 - (l' + 1) ≤ c - (k + (l' + 1)); omega⟩⟩
                simp [Instr.sliceAt, Instr.slice, run_ty hu, e1, run_size hie, hne, add_at]
              · cases h
          · cases h
      · cases h
    · cases h
  · rename_i b o
    rw [RelV] at ha
    obtain ⟨r, c, hr, rfl⟩ := ha
    split at h
    · rename_i n e hu
      split at h
      · rename_i ie hie
        split at h
        · rename_i l h1 hb
          obtain ⟨e1, h2, h3⟩ := bnd_ok (P := P) (w := w) (b := false) hlo hhi (Nat.le_refl n) hb
          have h1n : h1 ≤ n := by omega
          split at h
          · rename_i hq
            have hq := Nat.eq_of_beq_eq_true hq
            cases h
            have e0 : h1 - l = 0 := by omega
            refine ⟨.slice (some ⟨r, o, none⟩) 0 0, ?_, by rw [RelV]; exact ⟨r, c, hr, rfl, Nat.le_refl _⟩⟩
            simp [Instr.sliceAt, run_ty hu, e1, run_size hie, hq, e0, Instr.sureAddr]
            omega
          · rename_i hq
            have hq : ¬ n = l := fun e' => by subst e'; simp at hq
            cases h
            refine ⟨.slice (some ⟨r, o + l * ie.size, none⟩) (h1 - l) (n - l), ?_, by rw [RelV]; exact ⟨r, c, hr, rfl, by simp only [Cap.val]; show h1 - l ≤ n - l; omega⟩⟩
            simp [Instr.sliceAt, run_ty hu, e1, run_size hie, hq, add_at, Instr.sureAddr]
        · cases h
      · cases h
    · cases h
  · cases h

/-! rows of zeros -/
def repV (zs : List V) : Nat → List V
  | 0 => []
  | n + 1 => zs ++ repV zs n
theorem repV_length (zs : List V) : ∀ n, (repV zs n).length = n * zs.length
  | 0 => by simp [repV]
  | n + 1 => by rw [repV, List.length_append, repV_length zs n, Nat.succ_mul, Nat.add_comm]
theorem repV_get (zs : List V) : ∀ (n i : Nat), i < n * zs.length → (repV zs n)[i]? = zs[i % zs.length]?
  | 0, i, h => by simp at h
  | n + 1, i, h => by
    rw [repV]
    by_cases hi : i < zs.length
    · rw [List.getElem?_append_left hi, Nat.mod_eq_of_lt hi]
    · have := Nat.add_mul n 1 zs.length
      rw [List.getElem?_append_right (by omega), repV_get zs n (i - zs.length) (by omega)]
      congr 1
      exact (Nat.mod_eq_sub_mod (by omega)).symm
theorem repV_rel {ρ : Rho} {zs : List V} {z : Array Value} (n size : Nat) (hz : RelL ρ zs z.toList) (hs : zs.length = size) :
    RelL ρ (repV zs n) ((Array.range (n * size)).map (fun i => z[i % z.size]!)).toList := by
  subst hs
  have hl : zs.length = z.size := by simpa using hz.length
  refine RelL.of_get (by simp [repV_length]) fun i a y h1 h2 => ?_
  have hi : i < n * zs.length := by have := (List.getElem?_eq_some_iff.1 h1).1; rwa [repV_length] at this
  rw [repV_get zs n i hi] at h1
  have h0 : 0 < zs.length := by
    rcases Nat.eq_zero_or_pos zs.length with h | h
    · rw [h] at hi; simp at hi
    · exact h
  obtain ⟨u, h3, h4⟩ := hz.get h1
  simp only [Array.toList_map, List.getElem?_map] at h2
  rw [show (Array.range (n * zs.length)).toList[i]? = some i by simp [hi]] at h2
  simp only [Option.map_some, Option.some.injEq] at h2
  have h5 : z[i % z.size]? = some u := by rw [← hl]; simpa using h3
  rw [getElem!_def, h5] at h2
  subst h2
  exact h4

def zeroV (P : Program) (t : TypeId) : Option (Nat × List V) :=
  match P.info? t with
  | none => none
  | some i => match i.zero with
    | none => none
    | some z => match V.ofC 20 z with
      | none => none
      | some v => match Nat.beq v.cells.length i.size with
        | true => some (i.size, v.cells)
        | false => none
theorem zeroV_ok {P : Program} {ρ : Rho} {t n zs} (h : zeroV P t = some (n, zs)) : ∃ i z, P.info? t = some i ∧ i.zero = some z ∧ i.size = n ∧ zs.length = n ∧ RelL ρ zs z.cells.toList := by
  unfold zeroV at h
  split at h
  · cases h
  · rename_i i hi
    split at h
    · cases h
    · rename_i z hz
      split at h
      · cases h
      · rename_i v hv
        split at h
        · rename_i hb
          cases h
          exact ⟨i, z, hi, hz, rfl, Nat.eq_of_beq_eq_true hb, cells_rel (ofC_rel 20 z v hv)⟩
        · cases h
/-- A new slice of so many zeros. -/
def makeOf (e : TypeId) (zs : List V) (l c : Nat) (m : Mem) : V × Mem := match zs with
  | [.int k (.ofNat 0)] => (.sl m.nx 0 l (.mi 0), m.new (.ints k c .nil))
  | _ => (.sl m.nx 0 l (.ex c), m.new (.row true e (repV zs c).length (Tr.fill (repV zs c) 0 .nil)))
theorem makeOf_rm {F : Fx} {w0 : World} {ρ : Rho} {m : Mem} {w : World} (h : RM F w0 ρ m w) (e : TypeId) {zs : List V} {z : Array Value} (l c size : Nat) (hz : RelL ρ zs z.toList) (hs : zs.length = size) (hl : l ≤ c) :
    ∃ ρ', Ext ρ ρ' ∧ RelV ρ' (makeOf e zs l c m).1 (.slice (some ⟨w.heap.size, 0, none⟩) l c) ∧ RM F w0 ρ' (makeOf e zs l c m).2 (w.alloc (.cells ((Array.range (c * size)).map (fun i => z[i % z.size]!)) e)) := by
  have hrep := repV_rel (ρ := ρ) (z := z) c size hz hs
  unfold makeOf
  split
  · rename_i k
    have hx : Ext ρ (ρ.put m.nx w.heap.size c) := Rho.put_ext (h.fresh _ (Nat.le_refl _))
    have hsz : size = 1 := by simpa using hs.symm
    subst hsz
    obtain ⟨_, h2⟩ := h.new (b := .ints k c .nil) (c := c) (w' := w.alloc (.cells ((Array.range (c * 1)).map (fun i => z[i % z.size]!)) e)) (by simp) (fun k hk => heap_alloc_lt w _ k hk) rfl rfl rfl
      ⟨⟨fun hF => absurd (h.fn _ hF) (by have := h.size; omega), by have := h.size; have := h.gsz; omega⟩, _, e, (0, 0), Array.getElem?_push_size, by simp, fun i hi => by
        have hl' : (repV [V.int k (.ofNat 0)] c).length = c := by rw [repV_length]; simp
        have hg : (repV [V.int k (.ofNat 0)] c)[i]? = some (.int k (.ofNat 0)) := by
          rw [repV_get _ _ _ (by simpa using hi)]
          simp [Nat.mod_one]
        obtain ⟨x, k1, k2⟩ := hrep.get hg
        rw [RelV] at k2
        rw [← Array.getElem?_toList, k1, k2]; rfl, fun i _ => by simp, rfl⟩
    exact ⟨_, hx, by rw [RelV]; exact ⟨_, _, Rho.put_self, rfl, hl⟩, h2⟩
  · obtain ⟨ρ', e1, e2, e3, e4⟩ := h.newRow e hrep
    rw [Array.toArray_toList] at e4
    exact ⟨ρ', e1, by rw [RelV]; exact ⟨_, _, e3, rfl, hl⟩, e4⟩
def makeSliceV (P : Program) (t : TypeId) (a b : V) (m : Mem) : Option (V × Mem) :=
  match natOf a, natOf b with
  | some l, some c => match P.underlying t with
    | some (.slice e) => match zeroV P e, P.info? e with
      | some (_, zs), some ie => match Nat.ble l c && (Nat.ble (ie.bytes * c) 281474976710656 && Nat.ble c 281474976710656) with
        | true => some (makeOf e zs l c m)
        | false => none
      | _, _ => none
    | _ => none
  | _, _ => none
theorem makeSlice_ok {P F w0 ρ m w t a b x y v m'} (h : RM F w0 ρ m w) (ha : RelV ρ a x) (hb : RelV ρ b y) (he : makeSliceV P t a b m = some (v, m')) : Does P F w0 ρ w (Instr.makeSlice t x y) v m' := by
  unfold makeSliceV at he
  split at he
  · rename_i l c hl hc
    obtain ⟨k1, rfl⟩ := natOf_rel hl ha
    obtain ⟨k2, rfl⟩ := natOf_rel hc hb
    split at he
    · rename_i e hu
      split at he
      · rename_i n zs ie hz hie
        split at he
        · rename_i hq
          obtain ⟨rfl, rfl⟩ : v = (makeOf e zs l c m).1 ∧ m' = (makeOf e zs l c m).2 := by
            have := Option.some.inj he
            rw [this]; exact ⟨rfl, rfl⟩
          simp only [Bool.and_eq_true] at hq
          obtain ⟨q1, q2, q3⟩ := hq
          have q1 := Nat.le_of_ble_eq_true q1
          have q2 := Nat.le_of_ble_eq_true q2
          have q3 := Nat.le_of_ble_eq_true q3
          obtain ⟨i, z, hi, hzz, h1, h2, h3⟩ := zeroV_ok (ρ := ρ) hz
          rw [hie] at hi; cases hi
          obtain ⟨ρ', e1, e2, e4⟩ := makeOf_rm h e (z := z.cells) l c ie.size h3 (by omega) q1
          refine ⟨ρ', .slice (some ⟨w.heap.size, 0, none⟩) l c, _, e1, ?_, e2, e4⟩
          have w1 : IntKind.i64.wrap (l : Int) = l := IntWalk.i64_in _ (by omega)
          have w2 : IntKind.i64.wrap (c : Int) = c := IntWalk.i64_in _ (by omega)
          have hbm : ¬ (281474976710656 < (ie.bytes : Int) * (c : Int)) := by
            have : ((ie.bytes * c : Nat) : Int) ≤ ((281474976710656 : Nat) : Int) := Int.ofNat_le.2 q2
            rw [Int.natCast_mul] at this; omega
          have hc0 : ¬ ((c : Int) < 0) := by omega
          have hl0 : ¬ ((l : Int) < 0) := by omega
          have hlc : ¬ ((c : Int) < (l : Int)) := by omega
          have hcond : (decide ((c : Int) < 0) || decide ((ie.bytes : Int) * (c : Int) > 2 ^ 48) || decide ((l : Int) < 0) || decide ((l : Int) > (c : Int))) = false := by
            have e48 : (2 : Int) ^ 48 = 281474976710656 := by decide
            rw [e48]
            simp only [Bool.or_eq_false_iff, decide_eq_false_iff_not]
            exact ⟨⟨⟨hc0, hbm⟩, hl0⟩, hlc⟩
          simp only [Instr.makeSlice, Sem.run_bind, run_ty hu, Result.andThen_ok, asInt, asIntOf, Sem.run_pure, run_info hie, w1, w2]
          rw [hcond]
          simp only [Bool.false_eq_true, if_false]
          simp only [Sem.run_bind, run_askRoom, Result.andThen_ok, run_size hie, Int.toNat_natCast]
          by_cases hn : c * ie.size = 0
          · simp only [hn, if_true, Sem.run_pure, Result.andThen_ok]
            have ea : Array.map (fun i => z.cells[i % z.cells.size]!) (Array.range 0) = #[] := by simp
            rw [ea]
            simp [newRow]
            rw [show Array.map (fun _ => (default : Value)) (Array.range 0) = #[] by simp]
          · simp only [hn, if_false, Sem.run_bind, run_zero hie hzz, Sem.run_pure, Result.andThen_ok]
            simp [newRow]
        · cases he
      · cases he
    · cases he
  · cases he
end Go.CE
