/-
  CLOSED EVALUATION, 16: a region that draws its order comes to what the reckoned order comes to.
-/
import Derived.Test.YtbkclmbfblncoaaGreatDoorCeO
noncomputable section
namespace Go.CE
open Go
set_option linter.unusedSimpArgs false
set_option linter.unusedVariables false

/-! memory with some blocks hidden -/
theorem get_delAll : ∀ (ids : List Nat) (t : Tr Blk) (i : Nat), (delAll t ids).get i = if i ∈ ids then none else t.get i
  | [], t, i => by simp [delAll]
  | j :: js, t, i => by
    rw [delAll, get_delAll js, Tr.get_del]
    by_cases h : i ∈ js
    · simp [h]
    · by_cases e : i = j <;> simp [h, e]
theorem get_backAll (t0 : Tr Blk) : ∀ (ids : List Nat) (t : Tr Blk) (i : Nat), (backAll t0 t ids).get i = if i ∈ ids ∧ (t0.get i).isSome then t0.get i else t.get i
  | [], t, i => by simp [backAll]
  | j :: js, t, i => by
    rw [backAll]
    split
    · rename_i b hb
      rw [get_backAll t0 js, Tr.get_set]
      by_cases h : i ∈ js ∧ (t0.get i).isSome
      · rw [if_pos h, if_pos ⟨by simp [h.1], h.2⟩]
      · rw [if_neg h]
        by_cases e : i = j
        · subst e
          rw [if_pos rfl, if_pos ⟨by simp, by simp [hb]⟩, hb]
        · rw [if_neg e, if_neg (fun hh => h ⟨by simpa [e] using hh.1, hh.2⟩)]
    · rename_i hb
      rw [get_backAll t0 js]
      by_cases h : i ∈ js ∧ (t0.get i).isSome
      · rw [if_pos h, if_pos ⟨by simp [h.1], h.2⟩]
      · rw [if_neg h, if_neg ?_]
        rintro ⟨h1, h2⟩
        simp only [List.mem_cons] at h1
        rcases h1 with rfl | h1
        · rw [hb] at h2; cases h2
        · exact h ⟨h1, h2⟩
theorem get_hideM (m : Mem) (ids : List Nat) (i : Nat) : (hideM m ids).t.get i = if i ∈ ids then none else m.t.get i := get_delAll ids m.t i
def Sub (a b : Mem) : Prop := ∀ i x, a.t.get i = some x → b.t.get i = some x
theorem RM.sub {F w0 ρ m w m2} (h : RM F w0 ρ m w) (hs : Sub m2 m) (hn : m.nx ≤ m2.nx) : RM F w0 ρ m2 w :=
  ⟨fun i b hi => h.blk i b (hs i b hi), fun i j bi bj r c c' hi hj => h.inj i j bi bj r c c' (hs _ _ hi) (hs _ _ hj), fun i hi => h.fresh i (Nat.le_trans hn hi), h.fn, h.gsz, h.size, h.keep, h.os, h.tape, h.output⟩
theorem Sub.cell {a b : Mem} (h : Sub a b) {i o v} (hc : a.cell? i o = some v) : b.cell? i o = some v := by
  unfold Mem.cell? at hc ⊢
  split at hc
  · rename_i hb; rw [h _ _ hb]; exact hc
  · rename_i hb; rw [h _ _ hb]; exact hc
  · rename_i hb; rw [h _ _ hb]; exact hc
  · cases hc
  · cases hc
theorem Sub.cells {a b : Mem} (h : Sub a b) {i o n v} (hc : a.cells i o n = some v) : b.cells i o n = some v := by
  unfold Mem.cells at hc ⊢
  split at hc
  · rename_i hb; rw [h _ _ hb]; exact hc
  · rename_i hb; rw [h _ _ hb]; exact hc
  · rename_i hb; rw [h _ _ hb]; exact hc
  · cases hc
  · cases hc
theorem Sub.cellP {a b : Mem} (h : Sub a b) {i o v} (hc : a.cellP? i o = some v) : b.cellP? i o = some v := by
  unfold Mem.cellP? at hc ⊢
  split at hc
  · rename_i hb; rw [h _ _ hb]; exact hc
  · rename_i hne
    have hc' := hc
    unfold Mem.cell? at hc'
    split at hc'
    · rename_i hb; rw [h _ _ hb]; exact h.cell hc
    · rename_i hb; rw [h _ _ hb]; exact h.cell hc
    · rename_i hb; exact absurd hb (hne _ _ _)
    · cases hc'
    · cases hc'
theorem Sub.load {P : Program} {a b : Mem} (h : Sub a b) {t x v} (hc : loadV P t x a = some v) : loadV P t x b = some v := by
  unfold loadV at hc ⊢
  split at hc
  · split at hc
    · cases hc
    · split at hc
      · split at hc
        · split at hc
          · rename_i hcs; simp only [h.cells hcs]; exact hc
          · cases hc
        · cases hc
      · exact h.cell hc
  · split at hc
    · cases hc
    · split at hc
      · cases hc
      · exact h.cellP hc
  · cases hc
theorem Sub.rowOf {a b : Mem} (h : Sub a b) {i p} (hc : rowOf (a.t.get i) = some p) : rowOf (b.t.get i) = some p := by
  cases hg : a.t.get i with
  | none => rw [hg] at hc; cases hc
  | some x => rw [h _ _ hg]; rw [hg] at hc; exact hc
theorem Sub.convU {P : Program} {a b : Mem} (h : Sub a b) {s d i o v} (hc : convU P s d i o a = some v) : convU P s d i o b = some v := by
  unfold CE.convU at hc ⊢
  split at hc
  · split at hc
    · rename_i j e n hj hr
      simp only [hj, h.rowOf hr]; exact hc
    · cases hc
  · split at hc
    · rename_i j e n hj hr
      simp only [hj, h.rowOf hr]; exact hc
    · cases hc
  · cases hc
theorem silent_sub {P : Program} {ev : Operand → Option V} {op : Op} {m m2 m' : Mem} {v : V} (hsub : Sub m m2) (hs : silentB P op = true) (h : exOp op P ev m = some (v, m')) : exOp op P ev m2 = some (v, m2) := by
  by_cases hr : readsB op = false
  · exact silent_any hs hr h
  · cases op <;> first
      | (exact absurd rfl hr)
      | skip
    · rename_i t x
      have h : exLoad P t (ev x) m = some (v, m') := h
      show exLoad P t (ev x) m2 = some (v, m2)
      unfold exLoad at h ⊢
      split at h
      · obtain ⟨h1, _⟩ := keepM_some h
        simp only [hsub.load h1]; rfl
      · cases h
    · rename_i s d x
      have h : exConv P s d (ev x) m = some (v, m') := h
      show exConv P s d (ev x) m2 = some (v, m2)
      unfold exConv at h ⊢
      split at h
      · rename_i b k hx
        obtain ⟨h1, _⟩ := keepM_some h
        simp only [hx, hsub.convU h1]; rfl
      · rename_i hx
        obtain ⟨h1, _⟩ := keepM_some h
        simp only [hx, h1]; rfl
      · have hd : notSlice (P.underlying d) = true := hs
        unfold convV at h ⊢
        repeat' (split at h)
        all_goals first
          | (cases h; done)
          | (cases h; rfl)
          | (cases h; simp_all; done)
          | (rename_i hcs _ _ _; cases h; simp_all [hsub.cells hcs]; done)
          | skip
        all_goals first
          | (cases h; simp_all [notSlice]; done)
          | (rename_i l hcs _ s' hb; cases h; rw [hsub.cells hcs]; simp_all; done)
      · cases h

/-! what comes ahead of what -/
def Lst (D : Array Bool) (i : Nat) : Prop := D.getD i false = true
theorem Lst.lt {D : Array Bool} {i : Nat} (h : Lst D i) : i < D.size := by
  unfold Lst at h
  rcases Nat.lt_or_ge i D.size with h1 | h1
  · exact h1
  · simp [Array.getD, Nat.not_lt.2 h1] at h
theorem lst_set {D : Array Bool} {i j : Nat} (hi : i < D.size) : Lst (D.setIfInBounds i true) j ↔ j = i ∨ Lst D j := by
  unfold Lst
  by_cases e : i = j
  · subst e
    have : i < (D.setIfInBounds i true).size := by simpa using hi
    simp [Array.getD, hi]
  · rw [getD_set_ne false e]
    exact ⟨.inr, fun h => h.resolve_left (fun e' => e e'.symm)⟩
theorem getD_true {D : Array Bool} {i : Nat} (h : i < D.size) : D.getD i true = D.getD i false := by simp [Array.getD, h]
def Closed (ops : Array Oper) (D : Array Bool) : Prop := ∀ i o, Lst D i → ops[i]? = some o → ∀ e ∈ o.after, Region.binds .any e = true → Lst D e.on
def Preds (ops : Array Oper) (D : Array Bool) (i : Nat) : Prop := ∀ o, ops[i]? = some o → ∀ e ∈ o.after, Region.binds .any e = true → Lst D e.on
theorem anc_lst {ops : Array Oper} {D : Array Bool} (hD : Closed ops D) : ∀ (n j i : Nat), Preds ops D i → ancB ops n j i = true → Lst D j
  | 0, j, i, _, h => by cases h
  | n + 1, j, i, hp, h => by
    unfold ancB at h
    split at h
    · cases h
    · rename_i o ho
      have ho : ops[i]? = some o := by simpa using ho
      rw [List.any_eq_true] at h
      obtain ⟨e, he, h⟩ := h
      rw [Bool.and_eq_true, Bool.or_eq_true] at h
      have hl := hp o ho e (by simpa using he) h.1
      rcases h.2 with h2 | h2
      · rw [Nat.eq_of_beq_eq_true h2] at hl; exact hl
      · exact anc_lst hD n j e.on (fun o' ho' => hD e.on o' hl ho') h2
theorem ready_iff {ops : Array Oper} {D : Array Bool} (hs : D.size = ops.size) {i : Nat} : i ∈ Region.ready .any ops D ↔ (¬ Lst D i) ∧ (∃ o, ops[i]? = some o) ∧ Preds ops D i := by
  rw [mem_ready]
  constructor
  · rintro ⟨h0, o, ho, hall⟩
    have hi : i < D.size := by rw [hs]; exact (Array.getElem?_eq_some_iff.1 ho).1
    refine ⟨fun h => ?_, ⟨o, ho⟩, fun o' ho' => ?_⟩
    · rw [getD_true hi] at h0; unfold Lst at h; rw [h0] at h; cases h
    · rw [ho] at ho'; cases ho'; exact hall
  · rintro ⟨h0, ⟨o, ho⟩, hp⟩
    have hi : i < D.size := by rw [hs]; exact (Array.getElem?_eq_some_iff.1 ho).1
    refine ⟨?_, o, ho, hp o ho⟩
    rw [getD_true hi]
    cases h : D.getD i false with
    | false => rfl
    | true => exact absurd h h0
theorem isIn_mem {i : Nat} : ∀ {l : List Nat}, isIn i l = true → i ∈ l
  | [], h => by cases h
  | j :: js, h => by
    simp only [isIn, Bool.or_eq_true] at h
    rcases h with h | h
    · rw [Nat.eq_of_beq_eq_true h]; simp
    · exact List.mem_cons_of_mem _ (isIn_mem h)
theorem isOne_mem {i : Nat} {l : List Nat} (h : isOne i l = true) : ∀ j ∈ l, j = i := by
  unfold isOne at h
  split at h
  · rename_i j
    intro k hk
    simp at hk
    rw [hk, Nat.eq_of_beq_eq_true h]
  · cases h
theorem ssa_at {ops : Array Oper} (h : ssaB ops = true) {i k : Nat} {oi ok : Oper} (hi : ops[i]? = some oi) (hk : ops[k]? = some ok) {t : Tmp} (ht : ok.dst = some t) :
    (i ≠ k → oi.dst ≠ some t) ∧ (t ∈ oi.looksAt ops → ancB ops 40 k i = true) := by
  unfold ssaB at h
  rw [List.all_eq_true] at h
  have h1 := h (oi, i) (by rw [List.mem_zipIdx_iff_getElem?]; simpa using hi)
  rw [List.all_eq_true] at h1
  have h2 := h1 (ok, k) (by rw [List.mem_zipIdx_iff_getElem?]; simpa using hk)
  simp only [ssa1, ht, Bool.and_eq_true, Bool.or_eq_true] at h2
  refine ⟨fun hne he => ?_, fun hm => ?_⟩
  · rcases h2.1 with h3 | h3
    · exact hne (Nat.eq_of_beq_eq_true h3)
    · rw [he] at h3; simp at h3
  · rcases h2.2 with h3 | h3
    · rw [Bool.not_eq_true', List.contains_eq_mem] at h3; simp [hm] at h3
    · exact h3
theorem hid_mem {ops : Array Oper} {i id : Nat} : ∀ {fl : List (Nat × Nat)}, id ∈ hidIds ops i fl ↔ ∃ j, (j, id) ∈ fl ∧ ancB ops 40 j i = false
  | [] => by simp [hidIds]
  | (j, d) :: ps => by
    unfold hidIds
    split
    · rename_i h
      rw [hid_mem (fl := ps)]
      constructor
      · rintro ⟨k, h1, h2⟩; exact ⟨k, by simp [h1], h2⟩
      · rintro ⟨k, h1, h2⟩
        simp only [List.mem_cons, Prod.mk.injEq] at h1
        rcases h1 with ⟨rfl, rfl⟩ | h1
        · rw [h] at h2; cases h2
        · exact ⟨k, h1, h2⟩
    · rename_i h
      rw [List.mem_cons, hid_mem (fl := ps)]
      constructor
      · rintro (rfl | ⟨k, h1, h2⟩)
        · exact ⟨j, by simp, h⟩
        · exact ⟨k, by simp [h1], h2⟩
      · rintro ⟨k, h1, h2⟩
        simp only [List.mem_cons, Prod.mk.injEq] at h1
        rcases h1 with ⟨rfl, rfl⟩ | h1
        · exact .inl rfl
        · exact .inr ⟨k, h1, h2⟩
end Go.CE
