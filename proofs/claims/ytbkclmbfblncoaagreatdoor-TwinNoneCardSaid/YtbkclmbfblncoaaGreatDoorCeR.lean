/-
  CLOSED EVALUATION, 18: the program catches up; an act.
-/
import Derived.Test.YtbkclmbfblncoaaGreatDoorCeQ
noncomputable section
namespace Go.CE
open Go
set_option linter.unusedSimpArgs false
set_option linter.unusedVariables false

/-- What is told of a guard, where its temporary is right. -/
theorem wanted_rel' {ρ : Rho} {tm : Tr V} {tmps : Array Value} (all : Array Oper) (o : Oper) (ho : ∀ i, tmps.size ≤ i → tm.get i = none) (hg : ∀ t ∈ o.looksAt all, ∀ x, tmps[t]? = some x → RelV ρ (tmGet tm t) x) :
    Region.wanted o (yielded all tmps) = wantedV all tm o.guard := by
  unfold Region.wanted wantedV
  cases hgd : o.guard with
  | none => rfl
  | some p =>
    obtain ⟨j, want⟩ := p
    simp only [yielded, guardV, Array.getElem?_toList]
    cases hj : all[j]? with
    | none => simp
    | some oj =>
      simp only [Option.bind_some]
      cases hd : oj.dst with
      | none => simp
      | some d =>
        simp only [Option.bind_some]
        have hget := hg d (guard_look hgd hj hd)
        cases ht : tm.get d with
        | none =>
          simp only
          cases hx : tmps[d]? with
          | none => simp
          | some x =>
            have := hget x hx
            unfold tmGet at this
            rw [ht, undefV, RelV] at this
            obtain ⟨xs, rfl, _⟩ := this
            simp
        | some v =>
          have hlt : d < tmps.size := by
            rcases Nat.lt_or_ge d tmps.size with h1 | h1
            · exact h1
            · rw [ho d h1] at ht; cases ht
          have hx : tmps[d]? = some tmps[d] := by simp [hlt]
          have := hget _ hx
          unfold tmGet at this
          rw [ht] at this
          simp only at this
          rw [hx]
          cases v <;> simp only [RelV] at this <;> first
            | (rw [this]; simp)
            | (obtain ⟨_, _, _, hh⟩ := this; rw [hh]; simp; done)
            | (obtain ⟨_, _, _, hh, _⟩ := this; rw [hh]; simp; done)
            | (obtain ⟨_, _, hh, _⟩ := this; rw [hh]; simp; done)
            | (obtain ⟨_, hh, _⟩ := this; rw [hh]; simp; done)

theorem RM.newAt {F : Fx} {w0 : World} {ρ : Rho} {m m2 : Mem} {w : World} (h : RM F w0 ρ m w) {id : Nat} {vs : List V} {xs : List Value} {t : TypeId} (hid : ρ id = none ∧ ¬ ρ.hole id) (hlt : id < m2.nx) (hnx : m.nx ≤ m2.nx) (hv : RelL ρ vs xs)
    (hself : m2.t.get id = some (.row true t vs.length (Tr.fill vs 0 .nil))) (hoth : ∀ k b, k ≠ id → m2.t.get k = some b → m.t.get k = some b) :
    RM F w0 (ρ.put id w.heap.size 0) m2 (w.alloc (.cells xs.toArray t)) := by
  have hx : Ext ρ (ρ.put id w.heap.size 0) := Rho.put_ext hid
  have hs : (w.alloc (.cells xs.toArray t)).heap.size = w.heap.size + 1 := by simp
  have hold : ∀ k, k < w.heap.size → (w.alloc (.cells xs.toArray t)).heap[k]? = w.heap[k]? := fun k hk => heap_alloc_lt w _ k hk
  have hb : BlkRel F (ρ.put id w.heap.size 0) (w.alloc (.cells xs.toArray t)) w.heap.size 0 (.row true t vs.length (Tr.fill vs 0 .nil)) :=
    ⟨fun _ => ⟨fun hF => absurd (h.fn _ hF) (by have := h.size; omega), by have := h.size; have := h.gsz; omega⟩, (fun h => by cases h), xs.toArray, (0, 0), Array.getElem?_push_size, by simpa using hv.length.symm,
      by have := Cells.fill (RelL.mono hx _ _ hv) []; simpa using this, fun _ i _ => by simp⟩
  refine ⟨fun i bi hi => ?_, fun i j bi bj r c' c'' hi hj hri hrj => ?_, fun i hi => ?_, h.fn, h.gsz, by have := h.size; omega, fun k hk => ?_, h.os, h.tape, h.output⟩
  · by_cases e : i = id
    · subst e; rw [hself] at hi; cases hi
      exact ⟨_, _, Rho.put_self, hb⟩
    · obtain ⟨r', c', h1, h2⟩ := h.blk i bi (hoth i bi e hi)
      exact ⟨r', c', hx.1 _ _ h1, h2.move hx (hold _ h2.lt)⟩
  · rw [Rho.put_at] at hri hrj
    by_cases e : i = id
    · by_cases e' : j = id
      · omega
      · rw [if_neg e'] at hrj
        rw [if_pos e] at hri
        cases hri
        exact absurd (h.lt (hoth j bj e' hj) hrj) (by omega)
    · rw [if_neg e] at hri
      by_cases e' : j = id
      · rw [if_pos e'] at hrj
        cases hrj
        exact absurd (h.lt (hoth i bi e hi) hri) (by omega)
      · rw [if_neg e'] at hrj
        exact h.inj i j bi bj r c' c'' (hoth i bi e hi) (hoth j bj e' hj) hri hrj
  · rw [Rho.put_at, if_neg (by omega)]
    have := h.fresh i (by omega)
    exact ⟨this.1, fun hh => this.2 hh.1⟩
  · rw [hold k (by have := h.fn k hk; have := h.size; omega)]
    exact h.keep k hk
/-- Other holes. -/
def Rho.holes (ρ : Rho) (p : Nat → Prop) (h : ∀ i, p i → ρ i = none) : Rho := ⟨ρ.f, p, h⟩
theorem Rho.holes_at {ρ : Rho} {p h i} : (ρ.holes p h) i = ρ i := rfl
theorem RM.holes {F : Fx} {w0 : World} {ρ : Rho} {m : Mem} {w : World} (h : RM F w0 ρ m w) {p : Nat → Prop} {hp} (hf : ∀ i, m.nx ≤ i → ¬ p i) : RM F w0 (ρ.holes p hp) m w := by
  refine ⟨fun i b hi => ?_, h.inj, fun i hi => ⟨(h.fresh i hi).1, hf i hi⟩, h.fn, h.gsz, h.size, h.keep, h.os, h.tape, h.output⟩
  obtain ⟨r, c, h1, h2⟩ := h.blk i b hi
  exact ⟨r, c, h1, BlkRel.moveF (ρ := ρ) (ρ' := ρ.holes p hp) (fun _ _ e => e) rfl h2⟩

section
variable {E : Env} {ops : Array Oper} {nt : Nat} {F : Fx} {w0 : World} {D X : Array Bool} {s : DS} {ρ : Rho} {tmps : Array Value} {w : World}
/-- Of an operation that may come up in the program all that it looks at is right. -/
theorem Inv.looks (hssa : ssaB ops = true) (h : Inv E ops nt F w0 D X s ρ tmps w) {i : Nat} {o : Oper} (hp : Preds ops D i) (ho : ops[i]? = some o) : ∀ t ∈ o.looksAt ops, ∀ x, tmps[t]? = some x → RelV ρ (tmGet s.tm t) x := fun t ht x hx => by
  rcases h.tm t x hx with ⟨k, h1, h2, ok, h3, h4⟩ | h1
  · exact absurd (anc_lst h.dcl 40 k i hp ((ssa_at hssa ho h3 h4).2 ht)) h2
  · exact h1
open Classical in
/-- The operands, where they are right. -/
def evm (G : Nat) (o : Oper) (ops : Array Oper) (tm : Tr V) : Operand → Option V := fun x => if x ∈ o.op.operands then evO G tm x else none
theorem evm_eq {G : Nat} {o : Oper} {ops : Array Oper} {tm : Tr V} {x : Operand} (h : x ∈ o.op.operands) : evm G o ops tm x = evO G tm x := by
  unfold evm; rw [if_pos h]
theorem Inv.evm_rel (hssa : ssaB ops = true) (h : Inv E ops nt F w0 D X s ρ tmps w) {i : Nat} {o : Oper} (hp : Preds ops D i) (ho : ops[i]? = some o) (dfs : List Deferred) :
    ∀ x v, evm E.T.g o ops s.tm x = some v → RelV ρ v ((⟨tmps, dfs⟩ : Act).eval x) := fun x v e => by
  unfold evm at e
  split at e
  · rename_i hx
    cases x with
    | tmp t =>
      have e : some (tmGet s.tm t) = some v := e
      cases e
      simp only [Act.eval]
      by_cases ht : t < tmps.size
      · have := h.looks hssa hp ho t (op_look hx) tmps[t] (by simp [ht])
        simpa [Array.getD, ht] using this
      · have h1 : s.tm.get t = none := h.tout t (h.tsz ▸ Nat.le_of_not_lt ht)
        unfold tmGet
        rw [h1]
        simp only [Array.getD, ht, dif_neg, not_false_eq_true]
        exact undef_rel
    | const c => exact constV_rel e
    | global g =>
      have e : gloV E.T.g g = some v := e
      unfold gloV at e
      split at e
      · rename_i hb
        cases e
        obtain ⟨c, hc⟩ := h.glo g (blt_lt hb)
        rw [RelV]; exact ⟨g, c, hc, rfl⟩
      · cases e
    | func f =>
      have e : some (V.fn (.func f) [] []) = some v := e
      cases e
      rw [RelV]; exact ⟨[], [], rfl, .nil, .nil⟩
  · cases e
theorem hid_pids (h : Inv E ops nt F w0 D X s ρ tmps w) {i : Nat} (hp : Preds ops D i) : ∀ id, id ∈ pids D s.fl → id ∈ hidIds ops i s.fl := fun id hid => by
  rw [pids_mem] at hid
  obtain ⟨j, h1, h2⟩ := hid
  rw [hid_mem]
  refine ⟨j, h1, ?_⟩
  cases e : ancB ops 40 j i with
  | false => rfl
  | true => exact absurd (anc_lst h.dcl 40 j i hp e) h2
theorem sub_hide (h : Inv E ops nt F w0 D X s ρ tmps w) {i : Nat} (hp : Preds ops D i) : Sub (hideM s.m (hidIds ops i s.fl)) (hideM s.m (pids D s.fl)) := fun k b hk => by
  rw [get_hideM] at hk ⊢
  split at hk
  · cases hk
  · rename_i hn
    rw [if_neg fun hh => hn (hid_pids h hp k hh)]; exact hk
theorem act_put_tmps (tmps : Array Value) (dfs : List Deferred) (d : Option Tmp) (x : Value) : (⟨tmps, dfs⟩ : Act).put d x = ⟨((⟨tmps, dfs⟩ : Act).put d x).tmps, dfs⟩ := by
  cases d <;> rfl
theorem put_tmps_size (tmps : Array Value) (dfs : List Deferred) (d : Option Tmp) (x : Value) : ((⟨tmps, dfs⟩ : Act).put d x).tmps.size = tmps.size := by
  cases d <;> simp [Act.put]
theorem put_tmps_get {tmps : Array Value} {dfs : List Deferred} {d : Option Tmp} {x y : Value} {t : Nat} (h : ((⟨tmps, dfs⟩ : Act).put d x).tmps[t]? = some y) : (d = some t ∧ y = x) ∨ (d ≠ some t ∧ tmps[t]? = some y) := by
  cases d with
  | none => exact .inr ⟨by simp, h⟩
  | some k =>
    simp only [Act.put] at h
    by_cases e : k = t
    · subst e
      have hlt : k < tmps.size := by
        have := (Array.getElem?_eq_some_iff.1 h).1; simpa using this
      rw [Array.getElem?_setIfInBounds_self_of_lt hlt] at h
      cases h; exact .inl ⟨rfl, rfl⟩
    · rw [Array.getElem?_setIfInBounds_ne e] at h
      exact .inr ⟨by simpa using e, h⟩

/-- The program carries out what is pending. -/
theorem Inv.catch (hssa : ssaB ops = true) (h : Inv E ops nt F w0 D X s ρ tmps w) {i : Nat} {o : Oper} (hi : i ∈ Region.ready .any ops D) (hX : Lst X i) (ho : ops[i]? = some o) (dfs : List Deferred) (b : Frame) (k : List Item) (rest : List Nat) (cs : List Frame) :
    ∃ ρ' x w', Ext ρ ρ' ∧ step E.P (lone (b.atR ⟨tmps, dfs⟩ (.inRegion ops (i :: rest) :: k)) cs w) = .next (lone (b.atR ((⟨tmps, dfs⟩ : Act).put o.dst x) (.inRegion ops rest :: k)) cs w') ∧
      Inv E ops nt F w0 (D.setIfInBounds i true) X s ρ' ((⟨tmps, dfs⟩ : Act).put o.dst x).tmps w' := by
  obtain ⟨hn, _, hp⟩ := (ready_iff h.dsz).1 hi
  have hlt : i < D.size := by rw [h.dsz]; exact (Array.getElem?_eq_some_iff.1 ho).1
  have hD : ∀ j, Lst (D.setIfInBounds i true) j ↔ j = i ∨ Lst D j := fun j => lst_set hlt
  have hpo := h.pv i o hX hn ho
  have hw := wanted_rel' (ρ := ρ) (tm := s.tm) (tmps := tmps) ops o (fun j hj => h.tout j (by have := h.tsz; omega)) (h.looks hssa hp ho)
  -- what is left to show, once the operation has yielded x in w'
  have fin : ∀ (ρ' : Rho) (x : Value) (w' : World) (v : V), (∀ id, (i, id) ∈ s.fl → ∃ r c, ρ' id = some (r, c) ∧ F.g ≤ r) → Ext ρ ρ' → RelV ρ' v x → DstIs nt s.tm o v → (∀ id, (∃ j, (j, id) ∈ s.fl ∧ ¬ Lst (D.setIfInBounds i true) j) → ρ' id = none) →
      RM F w0 ρ' (hideM s.m (pids (D.setIfInBounds i true) s.fl)) w' → Inv E ops nt F w0 (D.setIfInBounds i true) X s ρ' ((⟨tmps, dfs⟩ : Act).put o.dst x).tmps w' := by
    intro ρ' x w' v hdn hx hv hds hpn hrm
    refine ⟨by simpa using h.dsz, h.xsz, fun j hj => ?_, fun j oj hj hoj e he hb => (hD _).2 ?_, h.xcl, by rw [put_tmps_size]; exact h.tsz, h.tout, fun t y hy => ?_, fun j oj hj hnj hoj => h.pv j oj hj (fun hh => hnj ((hD j).2 (.inr hh))) hoj, h.flx, h.flu,
      fun j id hj hnj => hpn id ⟨j, hj, hnj⟩, h.lv, fun j id hj hd => ?_, hrm, h.glo.mono hx, h.fk, fun j id hj hnj => by rw [hx.2]; exact h.nh j id hj (fun hh => hnj ((hD j).2 (.inr hh))), fun j oj hj hnj => h.rdx j oj hj (fun hh => hnj ((hD j).2 (.inr hh)))⟩
    · rcases (hD j).1 hj with rfl | hj
      · exact hX
      · exact h.sub j hj
    · rcases (hD j).1 hj with rfl | hj
      · rw [ho] at hoj; cases hoj; exact .inr (hp o ho e he hb)
      · exact .inr (h.dcl j oj hj hoj e he hb)
    · rcases put_tmps_get hy with ⟨hd, rfl⟩ | ⟨hd, hy⟩
      · refine .inr ?_
        have := (hds t hd).2
        unfold tmGet
        rw [this]; exact hv
      · rcases h.tm t y hy with ⟨j, h1, h2, oj, h3, h4⟩ | h1
        · refine .inl ⟨j, h1, fun hh => ?_, oj, h3, h4⟩
          rcases (hD j).1 hh with rfl | hh
          · rw [ho] at h3; cases h3; exact hd h4
          · exact h2 hh
        · exact .inr (RelV.mono hx _ _ h1)
    · rcases (hD j).1 hd with rfl | hd
      · exact hdn id hj
      · obtain ⟨r, c, h1, h2⟩ := h.dn j id hj hd
        exact ⟨r, c, hx.1 _ _ h1, h2⟩
  -- an operation that lays no row
  have plain : ∀ (hno : ∀ id, (i, id) ∈ s.fl → False), (∀ id, id ∈ pids (D.setIfInBounds i true) s.fl ↔ id ∈ pids D s.fl) := fun hno id => by
    rw [pids_mem, pids_mem]
    constructor
    · rintro ⟨j, h1, h2⟩; exact ⟨j, h1, fun hh => h2 ((hD j).2 (.inr hh))⟩
    · rintro ⟨j, h1, h2⟩
      refine ⟨j, h1, fun hh => ?_⟩
      rcases (hD j).1 hh with rfl | hh
      · exact hno id h1
      · exact h2 hh
  have rmp : ∀ (hno : ∀ id, (i, id) ∈ s.fl → False), RM F w0 ρ (hideM s.m (pids (D.setIfInBounds i true) s.fl)) w := fun hno =>
    h.rm.sub (fun q b hq => by
      rw [get_hideM] at hq ⊢
      split at hq
      · cases hq
      · rename_i hnq
        rw [if_neg fun hh => hnq ((plain hno q).2 hh)]; exact hq) (Nat.le_refl _)
  have pnp : ∀ id, (∃ j, (j, id) ∈ s.fl ∧ ¬ Lst (D.setIfInBounds i true) j) → ρ id = none := fun id ⟨j, h1, h2⟩ => h.pn j id h1 fun hh => h2 ((hD j).2 (.inr hh))
  -- what is no row
  have keepA : ∀ (hno : ∀ id, (i, id) ∈ s.fl → False) {p : Nat → Prop} {hp' : ∀ j, p j → ρ j = none} {ρ1 : Rho}, (∀ j, p j ↔ ρ.hole j ∨ j ∈ pids D s.fl) → Ext (ρ.holes p hp') ρ1 → ∃ ρ', (∀ j, ρ' j = ρ1 j) ∧ Ext ρ ρ' ∧ ∀ m2 w2, RM F w0 ρ1 m2 w2 → s.m.nx ≤ m2.nx → RM F w0 ρ' m2 w2 := by
    intro hno p hp' ρ1 hpi hx
    have hh : ∀ j, ρ.hole j → ρ1 j = none := fun j hj => ρ1.hok j (by rw [hx.2]; exact (hpi j).2 (.inl hj))
    refine ⟨ρ1.holes ρ.hole hh, fun j => rfl, ⟨fun j q hq => hx.1 j q hq, rfl⟩, fun m2 w2 hm2 hn2 => hm2.holes fun j hj hj2 => (h.rm.fresh j (by have : (hideM s.m (pids D s.fl)).nx = s.m.nx := rfl; omega)).2 hj2⟩
  by_cases hex : ∃ id, (i, id) ∈ s.fl
  · -- a row
    obtain ⟨id, hid⟩ := hex
    have hfk := h.fk i id hid o ho
    rcases hpo with ⟨h1, h2⟩ | ⟨h1, h2, _⟩ | ⟨h1, t, vs, ref, id', h3, h4, h5, h6⟩
    · rw [hfk.1] at h1; cases h1
    · rw [hfk.2] at h2; cases h2
    · have : id' = id := ((h.flu i id' i id h4 hid).1 rfl)
      subst this
      rw [floatV_congr (ev' := evm E.T.g o ops s.tm) o.op fun x hx => (evm_eq hx).symm] at h3
      obtain ⟨xs, k1, k2⟩ := float_ok (h.evm_rel hssa hp ho dfs) h3
      have hfr : ρ id' = none ∧ ¬ ρ.hole id' := ⟨h.pn i id' hid hn, h.nh i id' hid hn⟩
      have hx : Ext ρ (ρ.put id' w.heap.size 0) := Rho.put_ext hfr
      have hnp : id' ∉ pids (D.setIfInBounds i true) s.fl := by
        rw [pids_mem]
        rintro ⟨j, j1, j2⟩
        exact j2 ((hD j).2 (.inl ((h.flu j id' i id' j1 hid).2 rfl)))
      refine ⟨_, _, _, hx, st_value ho (hw.trans h1) (floatV_nd h3) (k2 w), fin _ _ _ (ref.mk id') (fun id hi2 => ⟨w.heap.size, 0, by rw [(h.flu i id i id' hi2 hid).1 rfl]; exact Rho.put_self, by have := h.rm.gsz; have := h.rm.size; omega⟩) hx (FRef.rel Rho.put_self) h6 (fun id hh => ?_) ?_⟩
      · have hne : id ≠ id' := fun e => hnp (by rw [pids_mem]; subst e; exact hh)
        rw [Rho.put_at, if_neg hne]
        exact pnp id hh
      · refine h.rm.newAt hfr (h.flx i id' hid).2 (Nat.le_refl _) k1 ?_ fun k b hk hb => ?_
        · rw [get_hideM, if_neg hnp]; exact h5
        · rw [get_hideM] at hb ⊢
          split at hb
          · cases hb
          · rename_i hnk
            rw [if_neg]
            · exact hb
            · intro hh
              apply hnk
              rw [pids_mem] at hh ⊢
              obtain ⟨j, j1, j2⟩ := hh
              refine ⟨j, j1, fun hh => ?_⟩
              rcases (hD j).1 hh with rfl | hh
              · exact hk ((h.flu _ _ _ _ j1 hid).1 rfl)
              · exact j2 hh
  · have hno : ∀ id, (i, id) ∈ s.fl → False := fun id hh => hex ⟨id, hh⟩
    rcases hpo with ⟨h1, h2⟩ | ⟨h1, h2, v, m', h3, h4⟩ | ⟨h1, t, vs, ref, id', h3, h4, _⟩
    · exact ⟨ρ, undef, w, Ext.refl ρ, st_unwanted ho (hw.trans h1), fin ρ undef w undefV (fun id hi2 => (hno id hi2).elim) (Ext.refl ρ) undef_rel h2 pnp (rmp hno)⟩
    · rw [exOp_congr (ev' := evm E.T.g o ops s.tm) o.op _ fun x hx => (evm_eq hx).symm] at h3
      have h3 := silent_sub (sub_hide h hp) h2 h3
      have hp' : ∀ j, (ρ.hole j ∨ j ∈ pids D s.fl) → ρ j = none := fun j hj => hj.elim (ρ.hok j) fun hj => by
        rw [pids_mem] at hj
        obtain ⟨q, q1, q2⟩ := hj
        exact h.pn q j q1 q2
      have hrm : RM F w0 (ρ.holes (fun j => ρ.hole j ∨ j ∈ pids D s.fl) hp') (hideM s.m (pids D s.fl)) w := h.rm.holes fun j hj hh => hh.elim (h.rm.fresh j hj).2 fun hh => by
        rw [pids_mem] at hh
        obtain ⟨q, q1, _⟩ := hh
        have := (h.flx q j q1).2
        have hj : s.m.nx ≤ j := hj
        omega
      obtain ⟨ρ1, x, w1, k1, k2, k3, k4⟩ := exOp_ok (r := (⟨tmps, dfs⟩ : Act).eval) (fun x v hv => RelV.monoF (ρ := ρ) (ρ' := ρ.holes (fun j => ρ.hole j ∨ j ∈ pids D s.fl) hp') (fun _ _ e => e) _ _ (h.evm_rel hssa hp ho dfs x v hv)) hrm h3
      obtain ⟨ρ', e1, e2, e3⟩ := keepA hno (fun j => Iff.rfl) k1
      have hv : RelV ρ' v x := RelV.monoF (fun j q hq => by rw [e1]; exact hq) _ _ k3
      have hpn : ∀ id, (∃ j, (j, id) ∈ s.fl ∧ ¬ Lst (D.setIfInBounds i true) j) → ρ' id = none := fun id hh => by
        rw [e1]
        refine ρ1.hok id ?_
        rw [k1.2]
        refine .inr ?_
        rw [← plain hno, pids_mem]; exact hh
      have hrm' : RM F w0 ρ' (hideM s.m (pids (D.setIfInBounds i true) s.fl)) w1 := (e3 _ _ k4 (Nat.le_refl _)).sub (fun q b hq => by
        rw [get_hideM] at hq ⊢
        split at hq
        · cases hq
        · rename_i hnq
          rw [if_neg fun hh => hnq ((plain hno q).2 hh)]; exact hq) (Nat.le_refl _)
      rcases k2 with k2 | ⟨k2, rfl⟩
      · exact ⟨ρ', x, w1, e2, st_value ho (hw.trans h1) (exOp_nd h3) k2, fin ρ' x w1 v (fun id hi2 => (hno id hi2).elim) e2 hv h4 hpn hrm'⟩
      · exact ⟨ρ', undef, w1, e2, st_skip ho (hw.trans h1) (exOp_nd h3) k2, fin ρ' undef w1 v (fun id hi2 => (hno id hi2).elim) e2 hv h4 hpn hrm'⟩
    · exact absurd h4 (hno id')
end
end Go.CE
