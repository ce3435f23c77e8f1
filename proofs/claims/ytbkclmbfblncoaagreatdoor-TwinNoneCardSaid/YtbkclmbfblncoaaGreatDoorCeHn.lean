/-
  CLOSED EVALUATION, 8b: pointers seen as unsafe ones, and the text over a row of bytes.
-/
import Derived.Test.YtbkclmbfblncoaaGreatDoorCeHm
import Derived.Lib.Builder
import Derived.Lib.UnsafeStr
noncomputable section
namespace Go.CE
open Go Go.Lib
set_option linter.unusedSimpArgs false
set_option linter.unusedVariables false

/-- The row that a block is: its type and how many cells it has. -/
def rowOf : Option Blk → Option (TypeId × Nat)
  | some (.row _ t n _) => some (t, n)
  | _ => none
theorem rowOf_ok {F w0 ρ m w} (h : RM F w0 ρ m w) {b r c t n} (hr : ρ b = some (r, c)) (hb : rowOf (m.t.get b) = some (t, n)) : w.shape? r = some (t, n) := by
  unfold rowOf at hb
  split at hb
  · rename_i wr t' n' cs hg
    cases hb
    obtain ⟨_, _, xs, fr, h1, h2, _⟩ := h.at hg hr
    simp [World.shape?, h1, h2]
  · cases hb
/-- A pointer that is made an unsafe one, or a pointer out of an unsafe one. -/
def convU (P : Program) (src dst : TypeId) (b o : Nat) (m : Mem) : Option V := match P.underlying src, P.underlying dst with
  | some (.pointer t), some .unsafePointer => match P.info? t, rowOf (m.t.get b) with
    | some j, some (_, n) => match Nat.blt 0 j.size && Nat.blt o n with
      | true => some (.ptr b o)
      | false => none
    | _, _ => none
  | some .unsafePointer, some (.pointer u) => match P.info? u, rowOf (m.t.get b) with
    | some _, some (e, n) => match liesAt P P.depth e (n / P.cellsOf e) o u 1 with
      | true => some (.ptr b o)
      | false => none
    | _, _ => none
  | _, _ => none
def convN (P : Program) (src dst : TypeId) : Option V := match P.underlying src, P.underlying dst with
  | some (.pointer _), some .unsafePointer => some .nilp
  | some .unsafePointer, some (.pointer _) => some .nilp
  | _, _ => none
theorem convU_ok {P F w0 ρ m w src dst b o v} {x : Value} (h : RM F w0 ρ m w) (ha : RelV ρ (.ptr b o) x) (he : convU P src dst b o m = some v) : ∃ y, (convert src dst x).run P w = .ok y w ∧ RelV ρ v y := by
  have ha0 := ha
  rw [RelV] at ha
  obtain ⟨r, c, hr, rfl⟩ := ha
  unfold convU at he
  split at he
  · rename_i t hs hd
    split at he
    · rename_i j e n hj hrow
      split at he
      · rename_i hq
        cases he
        rw [Bool.and_eq_true] at hq
        have q1 := blt_lt' hq.1
        have q2 := blt_lt' hq.2
        exact ⟨_, run_to_unsafe (w := w) ⟨r, o, none⟩ hs hd hj (by omega) (rowOf_ok h hr hrow) q2, ha0⟩
      · cases he
    · cases he
  · rename_i u hs hd
    split at he
    · rename_i j e n hj hrow
      split at he
      · rename_i hq
        cases he
        exact ⟨_, run_from_unsafe (w := w) ⟨r, o, none⟩ hs hd hj (rowOf_ok h hr hrow) hq, ha0⟩
      · cases he
    · cases he
  · cases he
theorem convN_ok {P ρ w src dst v} {x : Value} (ha : RelV ρ .nilp x) (he : convN P src dst = some v) : ∃ y, (convert src dst x).run P w = .ok y w ∧ RelV ρ v y := by
  have ha0 := ha
  rw [RelV] at ha
  subst ha
  unfold convN at he
  split at he
  · rename_i t hs hd
    cases he
    exact ⟨_, by simp [convert, run_ty hs, run_ty hd, Conv.unsafePointer], ha0⟩
  · rename_i u hs hd
    cases he
    exact ⟨_, by simp [convert, run_ty hs, run_ty hd, Conv.unsafePointer], ha0⟩
  · cases he

def dataV : V → Option V
  | .nils => some .nilp
  | .sl b o n _ => match n with
    | 0 => none
    | _ => some (.ptr b o)
  | _ => none
theorem data_ok {P ρ w} {ts : Array TypeId} {ty : TypeId} {s v : V} {x : Value} (hs : RelV ρ s x) (h : dataV s = some v) : ∃ y, (Builtin.unsafeSliceData_ ts ty #[x]).run P w = .ok y w ∧ RelV ρ v y := by
  unfold dataV at h
  split at h
  · rw [RelV] at hs; subst hs; cases h
    exact ⟨_, run_unsafeSliceData_nil w ts ty 0 0, by rw [RelV]⟩
  · rename_i b o n cp
    rw [RelV] at hs
    obtain ⟨r, c, hr, rfl, hle⟩ := hs
    split at h
    · cases h
    · rename_i hn
      cases h
      have hn : n ≠ 0 := hn
      exact ⟨_, run_unsafeSliceData_row w ts ty ⟨r, o, none⟩ n (cp.val c) (by omega), by rw [RelV]; exact ⟨r, c, hr, rfl⟩⟩
  · cases h
/-- The bytes that cells hold. -/
def bytesIn : List V → Option (List UInt8)
  | [] => some []
  | v :: vs => match v with
    | .int .u8 (.ofNat k) => match Nat.blt k 256 with
      | true => consO (some (UInt8.ofNat k)) (bytesIn vs)
      | false => none
    | _ => none
theorem bytesIn_rel {ρ : Rho} : ∀ {vs : List V} {bs : List UInt8} {xs : List Value}, bytesIn vs = some bs → RelL ρ vs xs → bs.length = vs.length ∧ ∀ (j : Nat) (b : UInt8), bs[j]? = some b → xs[j]? = some (.int .u8 b.toNat)
  | [], bs, xs, h, hx => by cases h; exact ⟨rfl, fun j b hj => by simp at hj⟩
  | v :: vs, bs, xs, h, hx => by
    rw [RelL] at hx
    obtain ⟨x, ys, rfl, h1, h2⟩ := hx
    unfold bytesIn at h
    split at h
    · rename_i k
      split at h
      · rename_i hk
        obtain ⟨b, bs', e1, e2, rfl⟩ := consO_some h
        cases e1
        have hk := blt_lt' hk
        obtain ⟨h3, h4⟩ := bytesIn_rel e2 h2
        refine ⟨by simp [h3], fun j b hj => ?_⟩
        cases j with
        | zero =>
          simp at hj
          subst hj
          rw [RelV] at h1
          subst h1
          simp
          omega
        | succ j => simpa using h4 j b (by simpa using hj)
      · cases h
    · cases h
theorem RM.frz {F w0 ρ m w} (h : RM F w0 ρ m w) {b r c : Nat} {bo : Blk} (hb : m.t.get b = some bo) (hr : ρ b = some (r, c)) (hk : ¬ F.k r) (o n : Nat) : RM F w0 ρ ⟨m.nx, m.t.del b⟩ (w.freeze ⟨r, o, none⟩ n) := by
  have hne : ∀ k, k ≠ r → (w.freeze ⟨r, o, none⟩ n).heap[k]? = w.heap[k]? := fun k hk => by
    unfold World.freeze
    split
    · rfl
    · simp only [Array.getElem?_modify]
      rw [if_neg (Ne.symm hk)]
  have hsz : (w.freeze ⟨r, o, none⟩ n).heap.size = w.heap.size := by
    unfold World.freeze
    split <;> simp
  have e1 : (w.freeze ⟨r, o, none⟩ n).os = w.os := by unfold World.freeze; split <;> rfl
  have e2 : (w.freeze ⟨r, o, none⟩ n).tape = w.tape := by unfold World.freeze; split <;> rfl
  have e3 : (w.freeze ⟨r, o, none⟩ n).output = w.output := by unfold World.freeze; split <;> rfl
  have g : ∀ i bi, (m.t.del b).get i = some bi → i ≠ b ∧ m.t.get i = some bi := fun i bi hi => by
    rw [Tr.get_del] at hi
    split at hi
    · cases hi
    · rename_i hne; exact ⟨hne, hi⟩
  refine ⟨fun i bi hi => ?_, fun i j bi bj r' c' c'' hi hj => h.inj i j bi bj r' c' c'' (g _ _ hi).2 (g _ _ hj).2, h.fresh, h.fn, h.gsz, by rw [hsz]; exact h.size, fun k hk' => ?_, e1.trans h.os, e2.trans h.tape, e3.trans h.output⟩
  · obtain ⟨hi1, hi2⟩ := g i bi hi
    obtain ⟨r', c', h1, h2⟩ := h.blk i bi hi2
    refine ⟨r', c', h1, h2.move (Ext.refl ρ) (hne _ fun e => hi1 ?_)⟩
    subst e
    exact h.inj i b bi bo r' c' c hi2 hb h1 hr
  · rw [hne _ fun e => hk (e ▸ hk')]
    exact h.keep k hk'
/-- The row of bytes that a block is grown as, or made as. -/
def byteRow : Option Blk → Option TypeId
  | some (.gro t _ _ _) => some t
  | some (.row true t _ _) => some t
  | _ => none
def unstrV (P : Program) (pt : TypeId) (p n : V) (m : Mem) : Option (V × Mem) := match n with
  | .int .i64 (.ofNat k) => match k with
    | 0 => match p with
      | .nilp => some (.str [], m)
      | .ptr _ _ => some (.str [], m)
      | _ => none
    | _ => match p with
      | .ptr b 0 => match P.underlying pt, byteRow (m.t.get b) with
        | some (.pointer e), some e' => match Nat.beq e e' && (Nat.beq (P.cellsOf e) 1 && Nat.ble k 9223372036854775807) with
          | true => match m.cells b 0 k with
            | some l => match bytesIn l with
              | some s => some (.str s, ⟨m.nx, m.t.del b⟩)
              | none => none
            | none => none
          | false => none
        | _, _ => none
      | _ => none
  | _ => none
theorem byteRow_ok {F w0 ρ m w} (h : RM F w0 ρ m w) {b r c t} (hr : ρ b = some (r, c)) (hb : byteRow (m.t.get b) = some t) : ¬ F.k r ∧ ∃ bo xs fr, m.t.get b = some bo ∧ w.heap[r]? = some (.cells xs t fr) := by
  unfold byteRow at hb
  split at hb
  · rename_i hg
    cases hb
    obtain ⟨h0, xs, fr, h1, _⟩ := h.at hg hr
    exact ⟨h0.1, _, xs, fr, hg, h1⟩
  · rename_i hg
    cases hb
    obtain ⟨h0, _, xs, fr, h1, _⟩ := h.at hg hr
    exact ⟨(h0 rfl).1, _, xs, fr, hg, h1⟩
  · cases hb
theorem unstr_ok {P F w0 ρ m w} (h : RM F w0 ρ m w) {pt it ty : TypeId} {p n v : V} {x y : Value} {m' : Mem} (hp : RelV ρ p x) (hn : RelV ρ n y) (he : unstrV P pt p n m = some (v, m')) : Does P F w0 ρ w (Builtin.unsafeString_ #[pt, it] ty #[x, y]) v m' := by
  unfold unstrV at he
  split at he
  · rename_i k
    rw [RelV] at hn
    subst hn
    split at he
    · split at he
      · cases he
        rw [RelV] at hp; subst hp
        exact Does.same (run_unsafeString_none w pt it ty none) (by rw [RelV]; rfl) h
      · cases he
        rw [RelV] at hp
        obtain ⟨r, c, hr, rfl⟩ := hp
        exact Does.same (run_unsafeString_none w pt it ty (some _)) (by rw [RelV]; rfl) h
      · cases he
    · rename_i hk0
      have hk0 : k ≠ 0 := hk0
      split at he
      · rename_i b
        rw [RelV] at hp
        obtain ⟨r, c, hr, rfl⟩ := hp
        split at he
        · rename_i e e' hpt hrow
          split at he
          · rename_i hq
            simp only [Bool.and_eq_true] at hq
            have q1 := Nat.eq_of_beq_eq_true hq.1
            have q2 := Nat.eq_of_beq_eq_true hq.2.1
            have q3 := Nat.le_of_ble_eq_true hq.2.2
            subst q1
            split at he
            · rename_i l hl
              split at he
              · rename_i s hs
                cases he
                obtain ⟨hF, bo, xs0, fr, hbo, hheap⟩ := byteRow_ok h hr hrow
                obtain ⟨xs, h1, h2, h3⟩ := h.cells hr hl
                obtain ⟨h4, h5⟩ := bytesIn_rel hs h2
                have hlen : s.length = k := by rw [h4, h2.length, h1]
                have hcell : ∀ (j : Nat) (z : UInt8), s[j]? = some z → w.cell? ((⟨r, 0, none⟩ : Addr).add j) = some (.int .u8 z.toNat) := fun j z hj => h3 j _ (h5 j z hj)
                have hsz : s.length ≤ xs0.size := by
                  rcases Nat.lt_or_ge xs0.size s.length with hh | hh
                  · exfalso
                    have hj : s[xs0.size]? = some s[xs0.size] := List.getElem?_eq_getElem hh
                    have := hcell _ _ hj
                    rw [add_at] at this
                    simp [World.cell?, hheap] at this
                  · exact hh
                have hrun := run_unsafeString_row (P := P) w pt it ty e hpt q2 r xs0.size (by simp [World.shape?, hheap]) s (by intro e0; rw [e0] at hlen; simp at hlen; omega) hsz (by omega) hcell
                rw [hlen] at hrun
                exact ⟨ρ, _, _, Ext.refl ρ, hrun, by rw [RelV], h.frz hbo hr hF 0 k⟩
              · cases he
            · cases he
          · cases he
        · cases he
      · cases he
  · cases he
end Go.CE
