/-
  CLOSED EVALUATION, 7: append, copy, len, cap, min, max.
-/
import Derived.Test.YtbkclmbfblncoaaGreatDoorCeF
noncomputable section
namespace Go.CE
open Go
set_option linter.unusedSimpArgs false
set_option linter.unusedVariables false

/-! what is appended or copied -/
def srcV (size : Nat) (x : V) (m : Mem) : Option (Nat × List V) :=
  match x with
  | .nils => some (0, [])
  | .sl b o n _ => match m.cells b o (Nat.mul n size) with
    | some l => some (n, l)
    | none => none
  | .str s => match Nat.beq size 1 with
    | true => some (s.length, bytesV s)
    | false => none
  | _ => none
structure Src (P : Program) (w : World) (size : Nat) (x : Value) (n : Nat) (xs : List Value) : Prop where
  len : (Builtin.lenOf x).run P w = .ok n w
  cells : (Builtin.firstCells size n x).run P w = .ok xs.toArray w
  cellsD : (Builtin.firstCells size n x).run P w.drew = .ok xs.toArray w.drew
theorem src_ok {P F w0 ρ m w size v x n vs} (h : RM F w0 ρ m w) (hv : RelV ρ v x) (he : srcV size v m = some (n, vs)) : ∃ xs, RelL ρ vs xs ∧ xs.length = n * size ∧ Src P w size x n xs := by
  unfold srcV at he
  split at he
  · rw [RelV] at hv; subst hv
    cases he
    exact ⟨[], .nil, by simp, by simp [Builtin.lenOf], by simp [Builtin.firstCells], by simp [Builtin.firstCells]⟩
  · rename_i b o n' cp
    rw [RelV] at hv
    obtain ⟨r, c, hr, rfl, hle⟩ := hv
    split at he
    · rename_i l hl
      cases he
      obtain ⟨xs, h1, h2, h3⟩ := h.cells hr hl
      have h1' : xs.length = n * size := h1
      refine ⟨xs, h2, h1', by simp [Builtin.lenOf], ?_, ?_⟩
      · have := run_loadCells_list (P := P) (w := w) ⟨r, o, none⟩ xs h3
        rw [h1'] at this
        simp [Builtin.firstCells, this]
      · have := run_loadCells_list (P := P) (w := w.drew) ⟨r, o, none⟩ xs h3
        rw [h1'] at this
        simp [Builtin.firstCells, this]
    · cases he
  · rename_i s
    rw [RelV] at hv; subst hv
    split at he
    · rename_i hb
      have hb := Nat.eq_of_beq_eq_true hb
      subst hb
      cases he
      have hsz : (⟨s.toArray⟩ : ByteArray).size = s.length := by simp [ByteArray.size]
      have hx : ((⟨s.toArray⟩ : ByteArray).extract 0 s.length).data.map (fun b => Value.int .u8 b.toNat) = (s.map fun b : UInt8 => Value.int .u8 b.toNat).toArray := by
        rw [ByteArray.data_extract]
        apply Array.ext'
        simp
      exact ⟨s.map fun b : UInt8 => Value.int .u8 b.toNat, bytesV_rel s, by simp, by simp [Builtin.lenOf, hsz], by simp [Builtin.firstCells, hx], by simp [Builtin.firstCells, hx]⟩
    · cases he
  · cases he

section
variable {P : Program} {w : World}
theorem append_room (t u ty e : TypeId) (i : TypeInfo) (ht : P.underlying t = some (.slice e)) (hi : P.info? e = some i) (hu : (∃ e', P.underlying u = some (.slice e')) ∨ P.underlying u = some .string)
    {r o sl cap n : Nat} {x : Value} {xs : List Value} (hs : Src P w i.size x n xs) (hroom : sl + n ≤ cap) {w' : World} (hst : (storeCells ⟨r, o + sl * i.size, none⟩ xs 0).run P w = .ok () w') :
    (Builtin.append_ #[t, u] ty #[.slice (some ⟨r, o, none⟩) sl cap, x]).run P w = .ok (.slice (some ⟨r, o, none⟩) (sl + n) cap) w' := by
  rcases hu with ⟨e', hu⟩ | hu
  · simp [Builtin.append_, run_ty ht, run_ty hu, run_size hi, hs.len, hroom, hs.cells, add_at, hst]
  · simp [Builtin.append_, run_ty ht, run_ty hu, run_size hi, hs.len, hroom, hs.cells, add_at, hst]
theorem append_nil (t u ty e : TypeId) (i : TypeInfo) (ht : P.underlying t = some (.slice e)) (hi : P.info? e = some i) (hu : (∃ e', P.underlying u = some (.slice e')) ∨ P.underlying u = some .string)
    {x : Value} {xs : List Value} (hs : Src P w i.size x 0 xs) : (Builtin.append_ #[t, u] ty #[.slice none 0 0, x]).run P w = .ok (.slice none 0 0) w := by
  rcases hu with ⟨e', hu⟩ | hu
  · simp [Builtin.append_, run_ty ht, run_ty hu, run_size hi, hs.len, hs.cells]
  · simp [Builtin.append_, run_ty ht, run_ty hu, run_size hi, hs.len, hs.cells]
theorem append_grow (t u ty e : TypeId) (i : TypeInfo) (z : Value) (ht : P.underlying t = some (.slice e)) (hi : P.info? e = some i) (hz : i.zero = some z) (hu : (∃ e', P.underlying u = some (.slice e')) ∨ P.underlying u = some .string)
    {ao : Option Addr} {sl cap n : Nat} {x : Value} {olds xs : List Value} (ho : (Builtin.firstCells i.size sl (.slice ao sl cap)).run P w.drew = .ok olds.toArray w.drew) (hs : Src P w i.size x n xs) (hg : cap < sl + n)
    (hsm : (sl + n) * i.bytes ≤ 140737488355328) (h63 : sl + n ≤ 9223372036854775807) :
    (Builtin.append_ #[t, u] ty #[.slice ao sl cap, x]).run P w = .ok (.slice (some ⟨w.heap.size, 0, none⟩) (sl + n) (grownCap w (sl + n) cap e))
      (w.drew.alloc (.cells (olds ++ xs ++ (Builtin.zeroCells z.cells (grownCap w (sl + n) cap e - (sl + n))).toList).toArray e)) := by
  have hn : ¬ (sl + n ≤ cap) := by omega
  have h63' : ¬ (9223372036854775807 < ((sl : Int) + (n : Int))) := by omega
  have h48' : ¬ (281474976710656 < Builtin.nextslicecap (sl + n) cap * i.bytes) := by have := growslice_fits hg hsm; omega
  have hinf := run_info (w := w) hi
  have hinfD := run_info (w := w.drew) hi
  have hzD := run_zero (w := w.drew) hi hz
  rcases hu with ⟨e', hu⟩ | hu
  all_goals
    simp [Builtin.append_, run_ty ht, run_ty hu, run_size hi, hs.len, hn, h63', h48', hinf, hinfD, hzD, Question.forced, ho, hs.cellsD, newRow, grownCap]
    congr 2
    apply Array.ext'
    simp [List.append_assoc]
end
theorem Src.mk_old {P F w0 ρ m w size b o n r c vs} (h : RM F w0 ρ m w) (hr : ρ b = some (r, c)) (he : m.cells b o (Nat.mul n size) = some vs) (cap : Nat) :
    ∃ xs, RelL ρ vs xs ∧ xs.length = n * size ∧ (Builtin.firstCells size n (.slice (some ⟨r, o, none⟩) n cap)).run P w.drew = .ok xs.toArray w.drew ∧ ∀ j x, xs[j]? = some x → w.cell? ((⟨r, o, none⟩ : Addr).add j) = some x := by
  obtain ⟨xs, h1, h2, h3⟩ := h.cells hr he
  have h1' : xs.length = n * size := h1
  refine ⟨xs, h2, h1', ?_, h3⟩
  have := run_loadCells_list (P := P) (w := w.drew) ⟨r, o, none⟩ xs h3
  rw [h1'] at this
  simp [Builtin.firstCells, this]

/-- Cells stored into a row, one behind another. -/
theorem store_row {P : Program} {r o : Nat} {t : TypeId} {fr : Nat × Nat} : ∀ (xs : List Value) (j : Nat) (cs : Array Value) (w : World), w.heap[r]? = some (.cells cs t fr) → Unfro fr cs.size → o + j + xs.length ≤ cs.size → (∀ x ∈ xs, x.oneCell' = true) →
    ∃ w' cs', (storeCells ⟨r, o, none⟩ xs j).run P w = .ok () w' ∧ w'.heap[r]? = some (.cells cs' t fr) ∧ cs'.size = cs.size ∧ (∀ k, cs'[k]? = if o + j ≤ k ∧ k < o + j + xs.length then xs[k - (o + j)]? else cs[k]?) ∧
      (∀ k, k ≠ r → w'.heap[k]? = w.heap[k]?) ∧ w'.heap.size = w.heap.size ∧ w'.os = w.os ∧ w'.tape = w.tape ∧ w'.output = w.output
  | [], j, cs, w, h, hf, hl, h1 => ⟨w, cs, by simp [storeCells], h, rfl, fun k => by simp; omega, fun _ _ => rfl, rfl, rfl, rfl, rfl⟩
  | x :: xs, j, cs, w, h, hf, hl, h1 => by
    simp only [List.length_cons] at hl
    have hlt : o + j < cs.size := by omega
    obtain ⟨w', cs', e1, e2, e3, e4, e5, e6, e7, e8, e9⟩ := store_row (P := P) (o := o) xs (j + 1) (cs.setIfInBounds (o + j) x) (w.setCell ⟨r, o + j, none⟩ x) (heap_setCell_at h) (by simpa using hf) (by simp; omega) (fun y hy => h1 y (by simp [hy]))
    refine ⟨w', cs', ?_, e2, by simpa using e3, fun k => ?_, fun k hk => (e5 k hk).trans (heap_setCell_ne _ _ _ _ hk), by simpa using e6, e7, e8, e9⟩
    · rw [storeCells, Sem.run_bind, run_store _ _ _ _ _ (h1 x (by simp)), add_at]
      have hc : w.cell? ⟨r, o + j, none⟩ = some cs[o + j] := by simp [World.cell?, h, hlt]
      have hfz : w.frozen? ⟨r, o + j, none⟩ = false := by
        have := hf (o + j) hlt
        simp [World.frozen?, h]; omega
      rw [hc]
      simp [hfz, e1]
    · rw [e4 k]
      simp only [List.length_cons]
      by_cases hk : k = o + j
      · subst hk
        rw [if_neg (by omega), if_pos (by omega)]
        simp [hlt]
      · by_cases hk2 : o + (j + 1) ≤ k ∧ k < o + (j + 1) + xs.length
        · rw [if_pos hk2, if_pos (by omega), show k - (o + j) = (k - (o + (j + 1))) + 1 by omega, List.getElem?_cons_succ]
        · rw [if_neg hk2, if_neg (by omega), Array.getElem?_setIfInBounds_ne (by omega)]

def ones : List V → Bool
  | [] => true
  | v :: vs => match v.one with
    | true => ones vs
    | false => false
theorem ones_rel {ρ : Rho} : ∀ (vs : List V) (xs : List Value), RelL ρ vs xs → ones vs = true → ∀ x ∈ xs, x.oneCell' = true
  | [], xs, h, _, x, hx => by rw [RelL] at h; subst h; cases hx
  | v :: vs, xs, h, ho, x, hx => by
    rw [RelL] at h
    obtain ⟨y, ys, rfl, h1, h2⟩ := h
    rw [ones] at ho
    split at ho
    · rename_i hv
      cases hx with
      | head => exact V.one_rel h1 hv
      | tail _ hx => exact ones_rel vs ys h2 ho x hx
    · cases ho
def isSrc : Option TypeDesc → Bool
  | some (.slice _) => true
  | some .string => true
  | _ => false
def appendV (P : Program) (t u : TypeId) (s x : V) (m : Mem) : Option (V × Mem) :=
  match isSrc (P.underlying u), P.underlying t with
  | true, some (.slice e) => match P.info? e with
    | some i => match zeroV P e with
      | some _ => match srcV i.size x m with
        | some (n, news) => match s with
          | .nils => match n with
            | 0 => some (.nils, m)
            | _ => match Nat.ble (n * i.bytes) 140737488355328 && Nat.ble n 9223372036854775807 with
              | true => some (.sl m.nx 0 n (.mi 0), m.new (.gro e i.size news.length (Tr.fill news 0 .nil)))
              | false => none
          | .sl b o k (.ex c) => match Nat.ble (k + n) c with
            | true => match m.puts b news (Nat.add o (Nat.mul k i.size)) with
              | some m' => some (.sl b o (Nat.add k n) (.ex c), m')
              | none => none
            | false => match m.cells b o (Nat.mul k i.size), Nat.ble ((k + n) * i.bytes) 140737488355328 && Nat.ble (k + n) 9223372036854775807 with
              | some olds, true => some (.sl m.nx 0 (Nat.add k n) (.mi 0), m.new (.gro e i.size (olds ++ news).length (Tr.fill (olds ++ news) 0 .nil)))
              | _, _ => none
          | .sl b 0 k (.mi 0) => match m.t.get b with
            | some (.gro e' es L cs) => match Nat.beq e e' && (Nat.beq es i.size && (Nat.blt 0 es && (ones news && (Nat.ble ((k + n) * i.bytes) 140737488355328 && Nat.ble (k + n) 9223372036854775807)))) with
              | true => match m.cells b 0 (Nat.mul k i.size) with
                | some olds => some (.sl m.nx 0 (Nat.add k n) (.mi 0), Mem.new ⟨m.nx, m.t.del b⟩ (.gro e es (olds ++ news).length (Tr.fill (olds ++ news) 0 .nil)))
                | none => none
              | false => none
            | _ => none
          | _ => none
        | none => none
      | none => none
    | none => none
  | _, _ => none
theorem isSrc_eq {d : Option TypeDesc} (h : isSrc d = true) : (∃ e', d = some (.slice e')) ∨ d = some .string := by
  unfold isSrc at h; split at h
  · exact .inl ⟨_, rfl⟩
  · exact .inr rfl
  · cases h
theorem zeroCells_length (z : Array Value) (n : Nat) : (Builtin.zeroCells z n).toList.length = n * z.size := by simp [Builtin.zeroCells]

theorem append_ok {P F w0 ρ m w t u ty s x a b v m'} (h : RM F w0 ρ m w) (hs : RelV ρ s a) (hx : RelV ρ x b) (he : appendV P t u s x m = some (v, m')) : Does P F w0 ρ w (Builtin.append_ #[t, u] ty #[a, b]) v m' := by
  unfold appendV at he
  split at he
  · rename_i e hq ht
    have hu := isSrc_eq hq
    split at he
    · rename_i i hi
      split at he
      · rename_i p hz
        obtain ⟨sz, zs⟩ := p
        obtain ⟨i', z, hi', hzz, z1, z2, z3⟩ := zeroV_ok (ρ := ρ) hz
        rw [hi] at hi'; cases hi'
        have hzs : z.cells.size = i.size := by have := z3.length; simp at this; omega
        split at he
        · rename_i n news hsrc
          obtain ⟨xs, r1, r2, r3⟩ := src_ok (P := P) h hx hsrc
          have hnl : news.length = xs.length := r1.length
          split at he
          · rw [RelV] at hs; subst hs
            split at he
            · cases he
              exact Does.same (append_nil t u ty e i ht hi hu r3) (by rw [RelV]) h
            · rename_i hn0
              split at he
              · rename_i hb
                simp only [Bool.and_eq_true] at hb
                have b1 := Nat.le_of_ble_eq_true hb.1
                have b2 := Nat.le_of_ble_eq_true hb.2
                cases he
                have hn0 : 0 < n := Nat.pos_of_ne_zero fun e => hn0 e
                have hg := append_grow (P := P) (w := w) (ty := ty) t u e i z ht hi hzz hu (ao := none) (sl := 0) (cap := 0) (olds := []) (by simp [Builtin.firstCells]) r3 (by omega) (by simpa using b1) (by simpa using b2)
                simp only [Nat.zero_add, List.nil_append] at hg
                have hge := grownCap_ge w n 0 e
                obtain ⟨ρ', e1, e2, e3⟩ := h.newGro (w1 := w.drew) (t := e) (es := i.size) (c := grownCap w n 0 e) (n := news.length) (fr := (0, 0)) rfl (fun _ => rfl) rfl rfl rfl r1 hnl
                  (rest := (Builtin.zeroCells z.cells (grownCap w n 0 e - n)).toList) (by rw [List.length_append, r2, zeroCells_length, hzs, ← Nat.add_mul]; congr 1; omega) (fun _ _ => by simp)
                exact ⟨ρ', _, _, e1, hg, by rw [RelV]; exact ⟨_, _, e2, rfl, hge⟩, e3⟩
              · cases he
          · rename_i bb o k c
            rw [RelV] at hs
            obtain ⟨r, cc, hr, rfl, hle⟩ := hs
            simp only [Cap.val] at hle ⊢
            split at he
            · rename_i hroom
              have hroom := Nat.le_of_ble_eq_true hroom
              split at he
              · rename_i m1 hm1
                cases he
                obtain ⟨w', h1, h2, h3⟩ := puts_ok (P := P) hr (o + k * i.size) news xs 0 m m' w h r1 hm1
                exact ⟨ρ, _, w', Ext.refl ρ, append_room t u ty e i ht hi hu r3 hroom h1, by rw [RelV]; exact ⟨r, cc, hr, rfl, hroom⟩, h2⟩
              · cases he
            · rename_i hnr
              have hnr : c < k + n := by
                rcases Nat.lt_or_ge c (k + n) with h' | h'
                · exact h'
                · rw [Nat.ble_eq_true_of_le h'] at hnr; cases hnr
              split at he
              · rename_i olds hold hb
                simp only [Bool.and_eq_true] at hb
                have b1 := Nat.le_of_ble_eq_true hb.1
                have b2 := Nat.le_of_ble_eq_true hb.2
                cases he
                obtain ⟨ys, s1, s2, s3, s4⟩ := Src.mk_old (P := P) h hr hold c
                have hg := append_grow (P := P) (w := w) (ty := ty) t u e i z ht hi hzz hu (ao := some ⟨r, o, none⟩) (sl := k) (cap := c) (olds := ys) (by simpa [Builtin.firstCells] using s3) r3 hnr b1 b2
                have hge := grownCap_ge w (k + n) c e
                obtain ⟨ρ', e1, e2, e3⟩ := h.newGro (w1 := w.drew) (t := e) (es := i.size) (c := grownCap w (k + n) c e) (n := (olds ++ news).length) (fr := (0, 0)) rfl (fun _ => rfl) rfl rfl rfl (s1.append r1) (by simp [s1.length, hnl])
                  (rest := (Builtin.zeroCells z.cells (grownCap w (k + n) c e - (k + n))).toList) (by rw [List.length_append, List.length_append, r2, s2, zeroCells_length, hzs, ← Nat.add_mul, ← Nat.add_mul]; congr 1; omega) (fun _ _ => by simp)
                exact ⟨ρ', _, _, e1, hg, by rw [RelV]; exact ⟨_, _, e2, rfl, hge⟩, e3⟩
              · cases he
          · rename_i bb k
            rw [RelV] at hs
            obtain ⟨r, cc, hr, rfl, hle⟩ := hs
            simp only [Cap.val, Nat.sub_zero] at hle ⊢
            split at he
            · rename_i e' es L cs hblk
              split at he
              · rename_i hb
                simp only [Bool.and_eq_true] at hb
                obtain ⟨q1, q2, q3, q4, q5, q6⟩ := hb
                have q1 := Nat.eq_of_beq_eq_true q1
                have q2 := Nat.eq_of_beq_eq_true q2
                have q3 := blt_lt q3
                have q5 := Nat.le_of_ble_eq_true q5
                have q6 := Nat.le_of_ble_eq_true q6
                subst q1 q2
                split at he
                · rename_i olds hold
                  cases he
                  obtain ⟨ys, s1, s2, s3, s4⟩ := Src.mk_old (P := P) h hr hold cc
                  obtain ⟨hnF, as, fr, g1, g2, g3, g4, g5⟩ := h.at hblk hr
                  have hlt := h.lt hblk hr
                  have hd := h.del bb
                  by_cases hroom : k + n ≤ cc
                  · -- in place
                    have hfit : 0 + k * i.size + 0 + xs.length ≤ as.size := by
                      rw [r2, g2, Nat.zero_add, Nat.add_zero, ← Nat.add_mul]; exact Nat.mul_le_mul_right _ hroom
                    obtain ⟨w', cs', t1, t2, t3, t4, t5, t6, t7, t8, t9⟩ := store_row (P := P) (r := r) (o := 0 + k * i.size) xs 0 as w g1 g5 hfit (ones_rel _ _ r1 q4)
                    have hx1 : Ext ρ (ρ.put m.nx r cc) := Rho.put_ext (h.fresh _ (Nat.le_refl _))
                    refine ⟨ρ.put m.nx r cc, _, w', hx1, append_room t u ty e i ht hi hu r3 hroom t1, by rw [RelV]; exact ⟨r, cc, Rho.put_self, rfl, hroom⟩, ?_⟩
                    have hne : ∀ j bj r' c', (m.t.del bb).get j = some bj → ρ j = some (r', c') → r' ≠ r := fun j bj r' c' hj hrj hrr => by
                      rw [Tr.get_del] at hj
                      split at hj
                      · cases hj
                      · rename_i hjb
                        subst hrr
                        exact hjb (h.inj j bb bj _ r' c' cc hj hblk hrj hr)
                    refine ⟨fun j bj hj => ?_, fun j j' bj bj' r' c' c'' hj hj' hrj hrj' => ?_, fun j hj => ?_, h.fn, h.gsz, by rw [t6]; exact h.size, fun kk hk => ?_, t7.trans h.os, t8.trans h.tape, t9.trans h.output⟩
                    · simp only [Mem.new, Tr.get_set] at hj
                      by_cases ej : j = m.nx
                      · subst ej; rw [if_pos rfl] at hj; cases hj
                        refine ⟨r, cc, Rho.put_self, hnF, cs', fr, t2, t3.trans g2, ?_, ?_, by rw [t3]; exact g5⟩
                        · rw [t3, g2, List.length_append, s1.length, s2, r1.length, r2, ← Nat.add_mul]; exact Nat.mul_le_mul_right _ hroom
                        · intro q v hv
                          rw [Tr.get_fill] at hv
                          split at hv
                          · rw [Nat.sub_zero] at hv
                            obtain ⟨y, y1, y2⟩ := (RelL.mono hx1 _ _ (s1.append r1)).get hv
                            refine ⟨y, ?_, y2⟩
                            rw [t4 q]
                            by_cases hq2 : q < ys.length
                            · rw [List.getElem?_append_left hq2] at y1
                              rw [if_neg (by omega)]
                              have := s4 q y y1
                              rw [add_at, Nat.zero_add] at this
                              simpa [World.cell?, g1] using this
                            · rw [List.getElem?_append_right (by omega)] at y1
                              have hq3 := (List.getElem?_eq_some_iff.1 y1).1
                              rw [if_pos (by omega)]
                              rw [show q - (0 + k * i.size + 0) = q - ys.length by omega]
                              exact y1
                          · rw [Tr.get_nil] at hv; cases hv
                      · rw [if_neg ej] at hj
                        obtain ⟨r', c', p1, p2⟩ := hd.blk j bj hj
                        exact ⟨r', c', hx1.1 _ _ p1, p2.move hx1 (t5 r' (hne j bj r' c' hj p1))⟩
                    · simp only [Mem.new, Tr.get_set] at hj hj'
                      rw [Rho.put_at] at hrj hrj'
                      by_cases ej : j = m.nx
                      · by_cases ej' : j' = m.nx
                        · omega
                        · rw [if_neg ej'] at hj' hrj'
                          rw [if_pos ej] at hrj; cases hrj
                          exact absurd rfl (hne j' bj' _ c'' hj' hrj')
                      · rw [if_neg ej] at hj hrj
                        by_cases ej' : j' = m.nx
                        · rw [if_pos ej'] at hrj'; cases hrj'
                          exact absurd rfl (hne j bj _ c' hj hrj)
                        · rw [if_neg ej'] at hj' hrj'
                          exact hd.inj j j' bj bj' r' c' c'' hj hj' hrj hrj'
                    · simp only [Mem.new] at hj
                      rw [Rho.put_at, if_neg (by omega)]
                      have := h.fresh j (by omega)
                      exact ⟨this.1, fun hh => this.2 hh.1⟩
                    · rw [t5 kk (fun ek => hnF.1 (ek ▸ hk))]
                      exact h.keep kk hk
                  · have hg := append_grow (P := P) (w := w) (ty := ty) t u e i z ht hi hzz hu (ao := some ⟨r, 0, none⟩) (sl := k) (cap := cc) (olds := ys) (by simpa [Builtin.firstCells] using s3) r3 (by omega) q5 q6
                    have hge := grownCap_ge w (k + n) cc e
                    obtain ⟨ρ', e1, e2, e3⟩ := hd.newGro (w1 := w.drew) (t := e) (es := i.size) (c := grownCap w (k + n) cc e) (n := (olds ++ news).length) (fr := (0, 0)) rfl (fun _ => rfl) rfl rfl rfl (s1.append r1) (by simp [s1.length, hnl])
                      (rest := (Builtin.zeroCells z.cells (grownCap w (k + n) cc e - (k + n))).toList) (by rw [List.length_append, List.length_append, r2, s2, zeroCells_length, hzs, ← Nat.add_mul, ← Nat.add_mul]; congr 1; omega) (fun _ _ => by simp)
                    exact ⟨ρ', _, _, e1, hg, by rw [RelV]; exact ⟨_, _, e2, rfl, hge⟩, e3⟩
                · cases he
              · cases he
            · cases he
          · cases he
        · cases he
      · cases he
    · cases he
  · cases he
end Go.CE
