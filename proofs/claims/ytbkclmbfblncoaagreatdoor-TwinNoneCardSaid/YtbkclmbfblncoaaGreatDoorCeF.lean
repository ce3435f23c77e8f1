/-
  CLOSED EVALUATION, 6: literals, conversions, append, copy.
-/
import Derived.Test.YtbkclmbfblncoaaGreatDoorCeE
import Derived.Laws.BytesString
import Derived.Laws.IdiomStrings
import Derived.Laws.Append
noncomputable section
namespace Go.CE
open Go
set_option linter.unusedSimpArgs false
set_option linter.unusedVariables false

/-! literals -/
def setAll : List V → Nat → List V → List V
  | l, _, [] => l
  | l, i, u :: us => setAll (l.set i u) (Nat.succ i) us
theorem setAll_length : ∀ (us : List V) (l : List V) (i : Nat), (setAll l i us).length = l.length
  | [], l, i => rfl
  | u :: us, l, i => by rw [setAll, setAll_length us]; simp
theorem setAll_rel {ρ : Rho} (off : Nat) : ∀ (us : List V) (ys : List Value) (k : Nat) (l : List V) (cs : Array Value), RelL ρ us ys → RelL ρ l cs.toList →
    RelL ρ (setAll l (off + k) us) ((ys.zipIdx k).foldl (fun cs (p : Value × Nat) => cs.setIfInBounds (off + p.2) p.1) cs).toList
  | [], ys, k, l, cs, h, hl => by rw [RelL] at h; subst h; exact hl
  | u :: us, ys, k, l, cs, h, hl => by
    rw [RelL] at h
    obtain ⟨x, xs, rfl, h1, h2⟩ := h
    rw [setAll, List.zipIdx_cons, List.foldl_cons]
    exact setAll_rel off us xs (k + 1) _ _ h2 (by rw [Array.toList_setIfInBounds]; exact hl.set _ h1)
def fillV (place : Nat → Option (Nat × Nat)) (cells : List V) : List (Nat × V) → Option (List V)
  | [] => some cells
  | (i, v) :: rest => match place i with
    | none => none
    | some (off, size) => match Nat.beq v.cells.length size && Nat.ble (off + size) cells.length with
      | true => fillV place (setAll cells off v.cells) rest
      | false => none
def RelP (ρ : Rho) : List (Nat × V) → List (Nat × Value) → Prop
  | [], qs => qs = []
  | (i, v) :: ps, qs => ∃ x rs, qs = (i, x) :: rs ∧ RelV ρ v x ∧ RelP ρ ps rs
theorem fill_ok {ρ : Rho} {place : Nat → Option (Nat × Nat)} : ∀ (ps : List (Nat × V)) (qs : List (Nat × Value)) (l l' : List V) (cs : Array Value), RelP ρ ps qs → RelL ρ l cs.toList → fillV place l ps = some l' →
    ∃ cs', Instr.fill place cs qs = some cs' ∧ RelL ρ l' cs'.toList
  | [], qs, l, l', cs, h, hl, e => by rw [RelP] at h; subst h; rw [fillV] at e; cases e; exact ⟨cs, rfl, hl⟩
  | (i, v) :: ps, qs, l, l', cs, h, hl, e => by
    rw [RelP] at h
    obtain ⟨x, rs, rfl, h1, h2⟩ := h
    rw [fillV] at e
    split at e
    · cases e
    · rename_i off size hp
      split at e
      · rename_i hb
        simp only [Bool.and_eq_true] at hb
        have b1 := Nat.eq_of_beq_eq_true hb.1
        have b2 := Nat.le_of_ble_eq_true hb.2
        have hc := cells_rel h1
        have hsz : x.cells.size = size := by rw [← b1, hc.length]; simp
        have hcs : l.length = cs.size := by simpa using hl.length
        have key := setAll_rel (ρ := ρ) off v.cells x.cells.toList 0 l cs hc hl
        rw [Nat.add_zero] at key
        obtain ⟨cs', h3, h4⟩ := fill_ok ps rs _ l' _ h2 key e
        refine ⟨cs', ?_, h4⟩
        rw [Instr.fill, hp]
        simp only
        rw [if_neg (by rw [hsz, ← hcs]; simp; omega)]
        rw [← h3]
        congr 1
        rw [← Array.foldl_toList, Array.toList_zipIdx]
      · cases e
def placesOf (P : Program) (fs : Array Field) : Option (List (Nat × Nat)) := fs.toList.mapM (fun f => (P.info? f.type).map fun i => (f.offset, i.size))
def buildV (P : Program) (t : TypeId) (parts : List (Nat × V)) : Option V :=
  match P.info? t with
  | none => none
  | some it => match it.zero with
    | none => none
    | some z => match V.ofC 20 z with
      | none => none
      | some zv => match P.underlying t with
        | some (.array _ e) => match P.info? e with
          | none => none
          | some ie => match fillV (fun i => some (i * ie.size, ie.size)) zv.cells parts with
            | some l => some (.agg l)
            | none => none
        | some (.struct fs) => match placesOf P fs with
          | none => none
          | some places => match fillV (fun i => places[i]?) zv.cells parts with
            | some l => some (.agg l)
            | none => none
        | _ => none
theorem build_ok {P : Program} {w : World} {ρ : Rho} {t ps v} {qs : Array (Nat × Value)} (hp : RelP ρ ps qs.toList) (h : buildV P t ps = some v) : ∃ y, (Instr.build t qs).run P w = .ok y w ∧ RelV ρ v y := by
  unfold buildV at h
  split at h
  · cases h
  · rename_i it hit
    split at h
    · cases h
    · rename_i z hz
      split at h
      · cases h
      · rename_i zv hzv
        have hzr := cells_rel (ofC_rel (ρ := ρ) 20 z zv hzv)
        split at h
        · rename_i n e hu
          split at h
          · cases h
          · rename_i ie hie
            split at h
            · rename_i l hl
              cases h
              obtain ⟨cs, h1, h2⟩ := fill_ok ps qs.toList _ l z.cells hp hzr hl
              exact ⟨.agg cs, run_build w t qs cs (by simp [Program.built, hit, hu, hz, hie, h1]), by rw [RelV]; exact ⟨cs.toList, by simp, h2⟩⟩
            · cases h
        · rename_i fs hu
          split at h
          · cases h
          · rename_i places hpl
            split at h
            · rename_i l hl
              cases h
              obtain ⟨cs, h1, h2⟩ := fill_ok ps qs.toList _ l z.cells hp hzr hl
              refine ⟨.agg cs, run_build w t qs cs ?_, by rw [RelV]; exact ⟨cs.toList, by simp, h2⟩⟩
              unfold placesOf at hpl
              simp only [Program.built, hit, hu, hz, hpl]
              simpa using h1
            · cases h
        · cases h
def buildSliceV (P : Program) (t : TypeId) (len : Nat) (parts : List (Nat × V)) (m : Mem) : Option (V × Mem) :=
  match P.underlying t with
  | some (.slice e) => match zeroV P e with
    | some (size, zs) => match Nat.ble (len * size) 16777216 with
      | true => match fillV (fun i => some (i * size, size)) (repV zs len) parts with
        | some l => some (.sl m.nx 0 len (.ex len), m.new (.row true e l.length (Tr.fill l 0 .nil)))
        | none => none
      | false => none
    | none => none
  | _ => none
theorem buildSlice_ok {P F w0 ρ m w t len ps v m'} {qs : Array (Nat × Value)} (h : RM F w0 ρ m w) (hp : RelP ρ ps qs.toList) (he : buildSliceV P t len ps m = some (v, m')) : Does P F w0 ρ w (Instr.buildSlice t len qs) v m' := by
  unfold buildSliceV at he
  split at he
  · rename_i e hu
    split at he
    · rename_i size zs hz
      split at he
      · rename_i hb
        split at he
        · rename_i l hl
          cases he
          obtain ⟨i, z, hi, hzz, h1, h2, h3⟩ := zeroV_ok (ρ := ρ) hz
          subst h1
          have hrep := repV_rel (ρ := ρ) (z := z.cells) len i.size h3 h2
          obtain ⟨cs, f1, f2⟩ := fill_ok ps qs.toList _ l _ hp hrep hl
          obtain ⟨ρ', e1, e2, e3, e4⟩ := h.newRow e f2
          rw [Array.toArray_toList] at e4
          refine ⟨ρ', .slice (some ⟨w.heap.size, 0, none⟩) len len, _, e1, ?_, by rw [RelV]; exact ⟨_, _, e3, rfl, Nat.le_refl _⟩, e4⟩
          have hsm : ¬ len * i.size > 2 ^ 24 := by have := Nat.le_of_ble_eq_true hb; have e24 : 2 ^ 24 = 16777216 := by decide
                                                   omega
          by_cases hn : len * i.size = 0
          · have ea : Array.map (fun x => (#[] : Array Value)[x % (#[] : Array Value).size]!) (Array.range (len * i.size)) = Array.map (fun x => z.cells[x % z.cells.size]!) (Array.range (len * i.size)) := by
              rw [hn]; simp
            simp only [Instr.buildSlice, Sem.run_bind, run_ty hu, Result.andThen_ok, run_size hi]
            rw [if_neg hsm, if_pos hn]
            simp only [Sem.run_bind, Sem.run_pure, Result.andThen_ok]
            rw [ea, f1]
            simp [newRow]
          · simp only [Instr.buildSlice, Sem.run_bind, run_ty hu, Result.andThen_ok, run_size hi, hsm, if_false, hn, run_zero hi hzz, Sem.run_pure]
            rw [f1]
            simp [newRow]
        · cases he
      · cases he
    · cases he
  · cases he

/-! conversions -/
def bytesV : List UInt8 → List V
  | [] => []
  | b :: bs => .int .u8 (Int.ofNat b.toNat) :: bytesV bs
theorem bytesV_rel {ρ : Rho} : ∀ (s : List UInt8), RelL ρ (bytesV s) (s.map fun b : UInt8 => Value.int .u8 b.toNat)
  | [] => .nil
  | b :: bs => .cons RelV.int (bytesV_rel bs)
theorem bytesV_length : ∀ (s : List UInt8), (bytesV s).length = s.length
  | [] => rfl
  | b :: bs => by rw [bytesV, List.length_cons, bytesV_length bs, List.length_cons]
def unbytes : List V → Option (List UInt8)
  | [] => some []
  | .int .u8 n :: vs => match unbytes vs with
    | some bs => some (UInt8.ofNat n.toNat :: bs)
    | none => none
  | _ => none
theorem unbytes_rel {ρ : Rho} : ∀ (vs : List V) (bs : List UInt8) (xs : List Value), unbytes vs = some bs → RelL ρ vs xs → ∃ ns : List Int, xs = ns.map (Value.int .u8) ∧ bs = ns.map fun n => UInt8.ofNat n.toNat
  | [], bs, xs, h, hx => by cases h; rw [RelL] at hx; subst hx; exact ⟨[], rfl, rfl⟩
  | v :: vs, bs, xs, h, hx => by
    rw [RelL] at hx
    obtain ⟨x, ys, rfl, h1, h2⟩ := hx
    unfold unbytes at h
    split at h
    · rename_i heq; cases heq
    · rename_i n vs' heq
      cases heq
      split at h
      · rename_i bs' hb
        cases h
        rw [RelV] at h1; subst h1
        obtain ⟨ns, rfl, rfl⟩ := unbytes_rel vs bs' ys hb h2
        exact ⟨n :: ns, rfl, rfl⟩
      · cases h
    · cases h
def isU8 : Option TypeDesc → Bool
  | some (.int .u8) => true
  | _ => false
def convV (P : Program) (src dst : TypeId) (x : V) (m : Mem) : Option (V × Mem) :=
  match P.underlying src with
  | none => none
  | some ds => match P.underlying dst with
    | none => none
    | some dd => match dd, x with
      | .int k, .int _ n => some (.int k (k.wrap n), m)
      | .string, .str s => some (.str s, m)
      | .string, .nils => match ds with
        | .slice e => match isU8 (P.underlying e) with
          | true => some (.str [], m)
          | false => none
        | _ => none
      | .string, .sl b o n _ => match ds with
        | .slice e => match isU8 (P.underlying e) with
          | true => match m.cells b o n with
            | some l => match unbytes l with
              | some s => some (.str s, m)
              | none => none
            | none => none
          | false => none
        | _ => none
      | .slice e, .str s => match ds with
        | .string => match isU8 (P.underlying e) with
          | true => some (.sl m.nx 0 s.length (.mi 0), m.new (.gro e 1 s.length (Tr.fill (bytesV s) 0 .nil)))
          | false => none
        | _ => none
      | _, _ => none
theorem isU8_eq {d : Option TypeDesc} (h : isU8 d = true) : d = some (.int .u8) := by
  unfold isU8 at h; split at h
  · rfl
  · cases h
theorem foldl_push (ns : List Int) (r : ByteArray) : (ns.foldl (fun r n => r.push (UInt8.ofNat n.toNat)) r).data.toList = r.data.toList ++ ns.map fun n => UInt8.ofNat n.toNat := by
  induction ns generalizing r with
  | nil => simp
  | cons n ns ih => rw [List.foldl_cons, ih]; simp [ByteArray.push]
theorem grownCap_ge (w : World) (n o : Nat) (e : TypeId) : n ≤ grownCap w n o e := by simp [grownCap, Question.cut]
/-- A new row of which only the first cells are known. -/
theorem RM.newGro {F : Fx} {w0 : World} {ρ : Rho} {m : Mem} {w w1 : World} (h : RM F w0 ρ m w) (hw : w1.heap.size = w.heap.size) (hk : ∀ k : Nat, w1.heap[k]? = w.heap[k]?) (ho : w1.os = w.os) (ht : w1.tape = w.tape) (hp : w1.output = w.output) {vs : List V} {xs rest : List Value} {t es c n : Nat} {fr : Nat × Nat}
    (hv : RelL ρ vs xs) (hn : n = xs.length) (hs : (xs ++ rest).length = c * es) (hf : Unfro fr (c * es)) :
    ∃ ρ', Ext ρ ρ' ∧ ρ' m.nx = some (w.heap.size, c) ∧ RM F w0 ρ' (m.new (.gro t es n (Tr.fill vs 0 .nil))) (w1.alloc (.cells (xs ++ rest).toArray t fr)) := by
  have hx : Ext ρ (ρ.put m.nx w.heap.size c) := Rho.put_ext (h.fresh _ (Nat.le_refl _))
  obtain ⟨_, h2⟩ := h.new (b := .gro t es n (Tr.fill vs 0 .nil)) (c := c) (w' := w1.alloc (.cells (xs ++ rest).toArray t fr)) (by simp [hw]) (fun k hk' => by rw [heap_alloc_lt _ _ _ (by omega)]; exact hk k) ho ht hp
    ⟨⟨fun hF => absurd (h.fn _ hF) (by have := h.size; omega), by have := h.size; have := h.gsz; omega⟩, (xs ++ rest).toArray, fr, by rw [← hw]; exact Array.getElem?_push_size, by simpa using hs, by subst hn; simp,
      Cells.fill (RelL.mono hx _ _ hv) rest, by rw [List.size_toArray, hs]; exact hf⟩
  exact ⟨_, hx, Rho.put_self, h2⟩
theorem conv_ok {P F w0 ρ m w src dst a x v m'} (h : RM F w0 ρ m w) (ha : RelV ρ a x) (he : convV P src dst a m = some (v, m')) : Does P F w0 ρ w (convert src dst x) v m' := by
  unfold convV at he
  split at he
  · cases he
  · rename_i ds hs
    split at he
    · cases he
    · rename_i dd hd
      split at he
      · rw [RelV] at ha; subst ha
        cases he
        exact Does.same (by simp [convert, run_ty hs, run_ty hd, Conv.intToInt]) RelV.int h
      · rw [RelV] at ha; subst ha
        cases he
        exact Does.same (by simp [convert, run_ty hs, run_ty hd]) RelV.str h
      · rw [RelV] at ha; subst ha
        split at he
        · rename_i e
          split at he
          · rename_i hu
            cases he
            exact Does.same (x := .string .empty) (by simp [convert, run_ty hs, run_ty hd, run_ty (isU8_eq hu), Conv.bytesToString]) (by rw [RelV]; rfl) h
          · cases he
        · cases he
      · rename_i b o n cp
        rw [RelV] at ha
        obtain ⟨r, c, hr, rfl, hle⟩ := ha
        split at he
        · rename_i e
          split at he
          · rename_i hu
            split at he
            · rename_i l hl
              split at he
              · rename_i s hb
                cases he
                obtain ⟨xs, h1, h2, h3⟩ := h.cells hr hl
                obtain ⟨ns, rfl, rfl⟩ := unbytes_rel l s xs hb h2
                have hc := run_loadCells_list (P := P) (w := w) ⟨r, o, none⟩ (ns.map (Value.int .u8)) h3
                rw [h1] at hc
                have := run_bytesToString (P := P) w ⟨r, o, none⟩ n (cp.val c) ns hc
                refine Does.same (x := .string (ns.foldl (fun r n => r.push (UInt8.ofNat n.toNat)) ByteArray.empty)) (by simp [convert, run_ty hs, run_ty hd, run_ty (isU8_eq hu), this]) ?_ h
                rw [RelV]
                congr 1
                apply ByteArray.ext
                apply Array.ext'
                rw [foldl_push]; simp
              · cases he
            · cases he
          · cases he
        · cases he
      · rename_i e s
        rw [RelV] at ha; subst ha
        split at he
        · split at he
          · rename_i hu
            cases he
            have hrun := run_bytes_of_string (P := P) w src dst e ⟨s.toArray⟩ hs hd (isU8_eq hu)
            have hsz : (⟨s.toArray⟩ : ByteArray).size = s.length := by simp [ByteArray.size]
            rw [hsz] at hrun
            have hrow : bytesRow ⟨s.toArray⟩ (grownCap w s.length 0 e) = ((s.map fun b : UInt8 => Value.int .u8 b.toNat) ++ List.replicate (grownCap w s.length 0 e - s.length) (Value.int .u8 0)).toArray := by
              apply Array.ext'
              simp [bytesRow, hsz]
            have hlen : ((s.map fun b : UInt8 => Value.int .u8 b.toNat) ++ List.replicate (grownCap w s.length 0 e - s.length) (Value.int .u8 0)).length = grownCap w s.length 0 e * 1 := by
              have := grownCap_ge w s.length 0 e
              simp; omega
            rw [hrow] at hrun
            obtain ⟨ρ', e1, e2, e3⟩ := h.newGro (w1 := w.drew) (t := e) (es := 1) (c := grownCap w s.length 0 e) (n := s.length) (rest := List.replicate (grownCap w s.length 0 e - s.length) (Value.int .u8 0))
              (fr := ((((s.map fun b : UInt8 => Value.int .u8 b.toNat) ++ List.replicate (grownCap w s.length 0 e - s.length) (Value.int .u8 0)).toArray).size, (((s.map fun b : UInt8 => Value.int .u8 b.toNat) ++ List.replicate (grownCap w s.length 0 e - s.length) (Value.int .u8 0)).toArray).size + 1))
              rfl (fun _ => rfl) rfl rfl rfl (bytesV_rel s) (by simp) hlen (fun i hi => by simp only [List.size_toArray, hlen]; omega)
            exact ⟨ρ', _, _, e1, hrun, by rw [RelV]; exact ⟨_, _, e2, rfl, by simp only [Cap.val]; exact grownCap_ge _ _ _ _⟩, e3⟩
          · cases he
        · cases he
      · cases he
end Go.CE
