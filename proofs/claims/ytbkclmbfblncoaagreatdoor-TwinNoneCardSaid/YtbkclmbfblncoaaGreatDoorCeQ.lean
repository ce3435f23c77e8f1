/-
  CLOSED EVALUATION, 17: the reckoned order against any order.
-/
import Derived.Test.YtbkclmbfblncoaaGreatDoorCeP
noncomputable section
namespace Go.CE
open Go
set_option linter.unusedSimpArgs false
set_option linter.unusedVariables false

def DstIs (nt : Nat) (tm : Tr V) (o : Oper) (v : V) : Prop := ∀ d, o.dst = some d → d < nt ∧ tm.get d = some v
def PendOk (E : Env) (ops : Array Oper) (nt : Nat) (s : DS) (i : Nat) (o : Oper) : Prop :=
  (wantedV ops s.tm o.guard = false ∧ DstIs nt s.tm o undefV) ∨
  (wantedV ops s.tm o.guard = true ∧ silentB E.P o.op = true ∧ ∃ v m', exOp o.op E.P (evO E.T.g s.tm) (hideM s.m (hidIds ops i s.fl)) = some (v, m') ∧ DstIs nt s.tm o v) ∨
  (wantedV ops s.tm o.guard = true ∧ ∃ t vs ref id, floatV o.op E.P (evO E.T.g s.tm) = some (t, vs, ref) ∧ (i, id) ∈ s.fl ∧ s.m.t.get id = some (.row true t vs.length (Tr.fill vs 0 .nil)) ∧ DstIs nt s.tm o (ref.mk id))
def pids (D : Array Bool) : List (Nat × Nat) → List Nat
  | [] => []
  | p :: ps => if D.getD p.1 false = true then pids D ps else p.2 :: pids D ps
theorem pids_mem {D : Array Bool} {id : Nat} : ∀ {fl : List (Nat × Nat)}, id ∈ pids D fl ↔ ∃ j, (j, id) ∈ fl ∧ ¬ Lst D j
  | [] => by simp [pids]
  | (j, d) :: ps => by
    unfold pids
    split
    · rename_i h
      rw [pids_mem (fl := ps)]
      constructor
      · rintro ⟨k, h1, h2⟩; exact ⟨k, by simp [h1], h2⟩
      · rintro ⟨k, h1, h2⟩
        simp only [List.mem_cons, Prod.mk.injEq] at h1
        rcases h1 with ⟨rfl, rfl⟩ | h1
        · exact absurd h h2
        · exact ⟨k, h1, h2⟩
    · rename_i h
      rw [List.mem_cons, pids_mem (fl := ps)]
      constructor
      · rintro (rfl | ⟨k, h1, h2⟩)
        · exact ⟨j, by simp, h⟩
        · exact ⟨k, by simp [h1], h2⟩
      · rintro ⟨k, h1, h2⟩
        simp only [List.mem_cons, Prod.mk.injEq] at h1
        rcases h1 with ⟨rfl, rfl⟩ | h1
        · exact .inl rfl
        · exact .inr ⟨k, h1, h2⟩
def Dst (ops : Array Oper) (i : Nat) (t : Tmp) : Prop := ∃ o, ops[i]? = some o ∧ o.dst = some t

structure Inv (E : Env) (ops : Array Oper) (nt : Nat) (F : Fx) (w0 : World) (D X : Array Bool) (s : DS) (ρ : Rho) (tmps : Array Value) (w : World) : Prop where
  dsz : D.size = ops.size
  xsz : X.size = ops.size
  sub : ∀ i, Lst D i → Lst X i
  dcl : Closed ops D
  xcl : Closed ops X
  tsz : tmps.size = nt
  tout : ∀ i, nt ≤ i → s.tm.get i = none
  tm : ∀ t x, tmps[t]? = some x → (∃ i, Lst X i ∧ ¬ Lst D i ∧ Dst ops i t) ∨ RelV ρ (tmGet s.tm t) x
  pv : ∀ i o, Lst X i → ¬ Lst D i → ops[i]? = some o → PendOk E ops nt s i o
  flx : ∀ j id, (j, id) ∈ s.fl → Lst X j ∧ id < s.m.nx
  flu : ∀ j id j' id', (j, id) ∈ s.fl → (j', id') ∈ s.fl → (j = j' ↔ id = id')
  pn : ∀ j id, (j, id) ∈ s.fl → ¬ Lst D j → ρ id = none
  lv : ∀ k b, s.m.t.get k = some b → k < s.m.nx
  dn : ∀ j id, (j, id) ∈ s.fl → Lst D j → ∃ r c, ρ id = some (r, c) ∧ F.g ≤ r
  rm : RM F w0 ρ (hideM s.m (pids D s.fl)) w
  glo : Glo E.T.g ρ
  fk : ∀ j id, (j, id) ∈ s.fl → ∀ o, ops[j]? = some o → wantedV ops s.tm o.guard = true ∧ silentB E.P o.op = false
  nh : ∀ j id, (j, id) ∈ s.fl → ¬ Lst D j → ¬ ρ.hole id
  rdx : ∀ i o, Lst X i → ¬ Lst D i → ops[i]? = some o → wantedV ops s.tm o.guard = true → silentB E.P o.op = true → readsB o.op = true → i ∈ s.rd

theorem not_self {ops : Array Oper} {X : Array Bool} {i : Nat} (hc : Closed ops X) (hp : Preds ops X i) (hn : ¬ Lst X i) : ancB ops 40 i i = false := by
  cases h : ancB ops 40 i i with
  | false => rfl
  | true => exact absurd (anc_lst hc 40 i i hp h) hn
/-- Where i's temporary is put, nothing that came ahead looks. -/
theorem no_look {ops : Array Oper} (hssa : ssaB ops = true) {X : Array Bool} {i j : Nat} {oi oj : Oper} (hc : Closed ops X) (hn : ¬ Lst X i) (hp : Preds ops X j) (hi : ops[i]? = some oi) (hj : ops[j]? = some oj) {t : Tmp} (ht : oi.dst = some t) : t ∉ oj.looksAt ops := fun hm => by
  have := (ssa_at hssa hj hi ht).2 hm
  exact hn (anc_lst hc 40 i j hp this)
theorem put_get {nt : Nat} {tm tm' : Tr V} {d : Option Tmp} {v : V} (h : putTm nt tm d v = some tm') (t : Nat) (ht : d ≠ some t) : tm'.get t = tm.get t := by
  unfold putTm at h
  split at h
  · cases h; rfl
  · rename_i k
    split at h
    · cases h
      rw [Tr.get_set_ne _ _ (fun e => ht (by rw [e]))]
    · cases h
theorem put_self {nt : Nat} {tm tm' : Tr V} {o : Oper} {v : V} (h : putTm nt tm o.dst v = some tm') : DstIs nt tm' o v := fun d hd => by
  rw [hd] at h
  unfold putTm at h
  simp only at h
  split at h
  · rename_i hb
    cases h
    exact ⟨blt_lt hb, Tr.get_set_self _ _ _⟩
  · cases h
theorem put_out {nt : Nat} {tm tm' : Tr V} {d : Option Tmp} {v : V} (h : putTm nt tm d v = some tm') (ho : ∀ i, nt ≤ i → tm.get i = none) : ∀ i, nt ≤ i → tm'.get i = none := fun i hi => by
  unfold putTm at h
  split at h
  · cases h; exact ho i hi
  · rename_i k
    split at h
    · rename_i hb
      have := blt_lt hb
      cases h
      rw [Tr.get_set_ne _ _ (by omega)]; exact ho i hi
    · cases h
theorem ev_same {G : Nat} {tm tm' : Tr V} {x : Operand} (h : ∀ t, x = .tmp t → tm'.get t = tm.get t) : evO G tm' x = evO G tm x := by
  cases x with
  | tmp t =>
    show some (tmGet tm' t) = some (tmGet tm t)
    unfold tmGet
    rw [h t rfl]
  | _ => rfl
theorem op_look {ops : Array Oper} {o : Oper} {t : Tmp} (h : Operand.tmp t ∈ o.op.operands) : t ∈ o.looksAt ops := by
  unfold Oper.looksAt
  refine List.mem_append_left _ (List.mem_filterMap.2 ⟨.tmp t, by simpa using h, rfl⟩)
theorem guard_look {ops : Array Oper} {o og : Oper} {g : Nat} {b : Bool} {t : Tmp} (h : o.guard = some (g, b)) (hg : ops[g]? = some og) (ht : og.dst = some t) : t ∈ o.looksAt ops := by
  unfold Oper.looksAt
  refine List.mem_append_right _ ?_
  simp [h, hg, ht]
theorem wanted_same {ops : Array Oper} {tm tm' : Tr V} {o : Oper} (h : ∀ t ∈ o.looksAt ops, tm'.get t = tm.get t) : wantedV ops tm' o.guard = wantedV ops tm o.guard := by
  unfold wantedV
  split
  · rfl
  · rename_i g b hg
    unfold guardV
    split
    · rfl
    · rename_i og hog
      split
      · rfl
      · rename_i d hd
        rw [h d (guard_look hg (by simpa using hog) hd)]
/-- What is pending stays so under a put elsewhere, and under another row. -/
theorem PendOk.put {E : Env} {ops : Array Oper} {nt : Nat} {s : DS} {j : Nat} {oj : Oper} {tm' : Tr V} {m' : Mem} {fl' : List (Nat × Nat)} {rd' : List Nat} (h : PendOk E ops nt s j oj)
    (hl : ∀ t ∈ oj.looksAt ops, tm'.get t = s.tm.get t) (hd : ∀ t, oj.dst = some t → tm'.get t = s.tm.get t)
    (hsub : Sub (hideM s.m (hidIds ops j s.fl)) (hideM m' (hidIds ops j fl'))) (hfl : ∀ p ∈ s.fl, p ∈ fl') (hkeep : ∀ id b, (j, id) ∈ s.fl → s.m.t.get id = some b → m'.t.get id = some b) : PendOk E ops nt ⟨tm', m', fl', rd'⟩ j oj := by
  have hw : wantedV ops tm' oj.guard = wantedV ops s.tm oj.guard := wanted_same hl
  have hev : ∀ x ∈ oj.op.operands, evO E.T.g s.tm x = evO E.T.g tm' x := fun x hx => (ev_same fun t e => hl t (op_look (e ▸ hx))).symm
  have hds : ∀ v, DstIs nt s.tm oj v → DstIs nt tm' oj v := fun v hv d hd' => by
    have := hv d hd'
    exact ⟨this.1, by rw [hd d hd']; exact this.2⟩
  rcases h with ⟨h1, h2⟩ | ⟨h1, h2, v, m1, h3, h4⟩ | ⟨h1, t, vs, ref, id, h3, h4, h5, h6⟩
  · exact .inl ⟨hw.trans h1, hds _ h2⟩
  · refine .inr (.inl ⟨hw.trans h1, h2, v, hideM m' (hidIds ops j fl'), ?_, hds _ h4⟩)
    rw [exOp_congr oj.op _ hev] at h3
    exact silent_sub hsub h2 h3
  · refine .inr (.inr ⟨hw.trans h1, t, vs, ref, id, ?_, hfl _ h4, hkeep id _ h4 h5, hds _ h6⟩)
    rw [← floatV_congr oj.op hev]; exact h3

section
variable {E : Env} {ops : Array Oper} {nt : Nat} {F : Fx} {w0 : World} {D X : Array Bool} {s : DS} {ρ : Rho} {tmps : Array Value} {w : World}
theorem Inv.xpreds (h : Inv E ops nt F w0 D X s ρ tmps w) {j : Nat} (hj : Lst X j) : Preds ops X j := fun o ho => h.xcl j o hj ho
/-- E takes one more that may come up. -/
theorem Inv.adv (hssa : ssaB ops = true) (h : Inv E ops nt F w0 D X s ρ tmps w) {i : Nat} {o : Oper} (hi : i ∈ Region.ready .any ops X) (ho : ops[i]? = some o) {v : V} {tm' : Tr V} (hput : putTm nt s.tm o.dst v = some tm')
    {m' : Mem} {fl' : List (Nat × Nat)} {rd' : List Nat} (hm : (m' = s.m ∧ fl' = s.fl) ∨ ∃ t n c, m' = s.m.new (.row true t n c) ∧ fl' = (i, s.m.nx) :: s.fl ∧ wantedV ops tm' o.guard = true ∧ silentB E.P o.op = false) (hrd : ∀ k ∈ s.rd, k ∈ rd')
    (hpv : PendOk E ops nt ⟨tm', m', fl', rd'⟩ i o) (hrdi : wantedV ops tm' o.guard = true → silentB E.P o.op = true → readsB o.op = true → i ∈ rd') :
    Inv E ops nt F w0 D (X.setIfInBounds i true) ⟨tm', m', fl', rd'⟩ ρ tmps w := by
  obtain ⟨hn, _, hp⟩ := (ready_iff h.xsz).1 hi
  have hlt : i < X.size := by rw [h.xsz]; exact (Array.getElem?_eq_some_iff.1 ho).1
  have hnD : ¬ Lst D i := fun e => hn (h.sub i e)
  have hX : ∀ j, Lst (X.setIfInBounds i true) j ↔ j = i ∨ Lst X j := fun j => lst_set hlt
  have hnl : ∀ j oj, Preds ops X j → ops[j]? = some oj → ∀ t ∈ oj.looksAt ops, tm'.get t = s.tm.get t := fun j oj hpj hoj t ht =>
    put_get hput t fun e => no_look hssa h.xcl hn hpj ho hoj e ht
  have hnd : ∀ j oj, j ≠ i → ops[j]? = some oj → ∀ t, oj.dst = some t → tm'.get t = s.tm.get t := fun j oj hne hoj t ht =>
    put_get hput t fun e => (ssa_at hssa hoj ho e).1 hne ht
  have hid : ∀ j, Lst X j → ancB ops 40 i j = false := fun j hj => by
    cases e : ancB ops 40 i j with
    | false => rfl
    | true => exact absurd (anc_lst h.xcl 40 i j (h.xpreds hj) e) hn
  have hsub : ∀ j, Lst X j → Sub (hideM s.m (hidIds ops j s.fl)) (hideM m' (hidIds ops j fl')) := fun j hj k b hk => by
    rw [get_hideM] at hk ⊢
    split at hk
    · cases hk
    · rename_i hnk
      rcases hm with ⟨rfl, rfl⟩ | ⟨t, n, c, rfl, rfl, hff⟩
      · rw [if_neg hnk]; exact hk
      · have hkn := h.lv k b hk
        rw [if_neg, Mem.new, Tr.get_set_ne _ _ (by omega)]
        · exact hk
        · rw [hid_mem]
          rintro ⟨q, hq, hq2⟩
          simp only [List.mem_cons, Prod.mk.injEq] at hq
          rcases hq with ⟨rfl, rfl⟩ | hq
          · omega
          · exact hnk (hid_mem.2 ⟨q, hq, hq2⟩)
  have hfl : ∀ p ∈ s.fl, p ∈ fl' := fun p hp => by
    rcases hm with ⟨_, rfl⟩ | ⟨t, n, c, _, rfl, _⟩
    · exact hp
    · exact List.mem_cons_of_mem _ hp
  have hkeep : ∀ k b, s.m.t.get k = some b → m'.t.get k = some b := fun k b hk => by
    rcases hm with ⟨rfl, _⟩ | ⟨t, n, c, rfl, _⟩
    · exact hk
    · have := h.lv k b hk
      rw [Mem.new, Tr.get_set_ne _ _ (by omega)]; exact hk
  have hnx : s.m.nx ≤ m'.nx := by
    rcases hm with ⟨rfl, _⟩ | ⟨t, n, c, rfl, _⟩
    · exact Nat.le_refl _
    · exact Nat.le_succ _
  refine ⟨h.dsz, by simpa using h.xsz, fun j hj => (hX j).2 (.inr (h.sub j hj)), h.dcl, fun j oj hj hoj e he hb => (hX _).2 ?_, h.tsz, put_out hput h.tout, fun t x hx => ?_, fun j oj hj hnj hoj => ?_, fun j id hj => ?_, fun j id j' id' hj hj' => ?_,
    fun j id hj hnj => ?_, fun k b hk => ?_, fun j id hj hd => ?_, ?_, h.glo, fun j id hj oj hoj => ?_, fun j id hj hnj => ?_, fun j oj hj hnj hoj hw hs hr => ?_⟩
  · rcases (hX j).1 hj with rfl | hj
    · rw [ho] at hoj; cases hoj; exact .inr (hp o ho e he hb)
    · exact .inr (h.xcl j oj hj hoj e he hb)
  · by_cases ht : o.dst = some t
    · exact .inl ⟨i, (hX i).2 (.inl rfl), hnD, o, ho, ht⟩
    · rcases h.tm t x hx with ⟨j, h1, h2, h3⟩ | h1
      · exact .inl ⟨j, (hX j).2 (.inr h1), h2, h3⟩
      · refine .inr ?_
        unfold tmGet at h1 ⊢
        rw [put_get hput t ht]; exact h1
  · by_cases e : j = i
    · subst e; rw [ho] at hoj; cases hoj; exact hpv
    · have hj' : Lst X j := ((hX j).1 hj).resolve_left e
      exact (h.pv j oj hj' hnj hoj).put (hnl j oj (h.xpreds hj') hoj) (hnd j oj e hoj) (hsub j hj') hfl (fun id b _ hb => hkeep id b hb)
  · rcases hm with ⟨rfl, rfl⟩ | ⟨t, n, c, rfl, rfl, hff⟩
    · have := h.flx j id hj; exact ⟨(hX j).2 (.inr this.1), this.2⟩
    · simp only [List.mem_cons, Prod.mk.injEq] at hj
      rcases hj with ⟨rfl, rfl⟩ | hj
      · exact ⟨(hX _).2 (.inl rfl), Nat.lt_succ_self _⟩
      · have := h.flx j id hj; exact ⟨(hX j).2 (.inr this.1), Nat.lt_succ_of_lt this.2⟩
  · rcases hm with ⟨rfl, rfl⟩ | ⟨t, n, c, rfl, rfl, hff⟩
    · exact h.flu j id j' id' hj hj'
    · simp only [List.mem_cons, Prod.mk.injEq] at hj hj'
      rcases hj with ⟨rfl, rfl⟩ | hj <;> rcases hj' with ⟨rfl, rfl⟩ | hj'
      · simp
      · have := h.flx j' id' hj'
        exact ⟨fun e => absurd (e ▸ this.1) hn, fun e => by omega⟩
      · have := h.flx j id hj
        exact ⟨fun e => absurd (e ▸ this.1) hn, fun e => by omega⟩
      · exact h.flu j id j' id' hj hj'
  · rcases hm with ⟨rfl, rfl⟩ | ⟨t, n, c, rfl, rfl, hff⟩
    · exact h.pn j id hj hnj
    · simp only [List.mem_cons, Prod.mk.injEq] at hj
      rcases hj with ⟨rfl, rfl⟩ | hj
      · exact (h.rm.fresh _ (Nat.le_refl _)).1
      · exact h.pn j id hj hnj
  · rcases hm with ⟨rfl, _⟩ | ⟨t, n, c, rfl, _⟩
    · exact h.lv k b hk
    · simp only [Mem.new, Tr.get_set] at hk ⊢
      split at hk
      · omega
      · have := h.lv k b hk; omega
  · rcases hm with ⟨rfl, rfl⟩ | ⟨t, n, c, rfl, rfl, hff⟩
    · exact h.dn j id hj hd
    · simp only [List.mem_cons, Prod.mk.injEq] at hj
      rcases hj with ⟨rfl, rfl⟩ | hj
      · exact absurd hd hnD
      · exact h.dn j id hj hd
  · refine h.rm.sub (fun k b hk => ?_) hnx
    rw [get_hideM] at hk ⊢
    split at hk
    · cases hk
    · rename_i hnk
      rcases hm with ⟨rfl, rfl⟩ | ⟨t, n, c, rfl, rfl, hff⟩
      · rw [if_neg hnk]; exact hk
      · have hne : k ≠ s.m.nx := fun e => hnk (by rw [pids_mem]; exact ⟨i, by simp [e], hnD⟩)
        simp only [Mem.new, Tr.get_set, if_neg hne] at hk
        rw [if_neg (fun hh => hnk (by rw [pids_mem] at hh ⊢; obtain ⟨q, h1, h2⟩ := hh; exact ⟨q, List.mem_cons_of_mem _ h1, h2⟩))]
        exact hk
  · have old : (j, id) ∈ s.fl → wantedV ops tm' oj.guard = true ∧ silentB E.P oj.op = false := fun hj => by
      have := h.fk j id hj oj hoj
      exact ⟨by rw [wanted_same (hnl j oj (h.xpreds (h.flx j id hj).1) hoj)]; exact this.1, this.2⟩
    rcases hm with ⟨rfl, rfl⟩ | ⟨t, n, c, rfl, rfl, hff⟩
    · exact old hj
    · simp only [List.mem_cons, Prod.mk.injEq] at hj
      rcases hj with ⟨rfl, rfl⟩ | hj
      · rw [ho] at hoj; cases hoj; exact hff
      · exact old hj
  · rcases hm with ⟨rfl, rfl⟩ | ⟨t, n, c, rfl, rfl, hff⟩
    · exact h.nh j id hj hnj
    · simp only [List.mem_cons, Prod.mk.injEq] at hj
      rcases hj with ⟨rfl, rfl⟩ | hj
      · exact (h.rm.fresh _ (Nat.le_refl _)).2
      · exact h.nh j id hj hnj
  · by_cases e : j = i
    · subst e; rw [ho] at hoj; cases hoj; exact hrdi hw hs hr
    · have hj' : Lst X j := ((hX j).1 hj).resolve_left e
      have hw' : wantedV ops s.tm oj.guard = true := by rw [← wanted_same (hnl j oj (h.xpreds hj') hoj)]; exact hw
      exact hrd _ (h.rdx j oj hj' hnj hoj hw' hs hr)
end
end Go.CE
