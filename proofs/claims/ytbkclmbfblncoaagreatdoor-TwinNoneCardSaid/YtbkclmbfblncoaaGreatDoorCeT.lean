/-
  CLOSED EVALUATION, 20: regions that draw their order.
-/
import Derived.Test.YtbkclmbfblncoaaGreatDoorCeS
noncomputable section
namespace Go.CE
open Go
set_option linter.unusedSimpArgs false
set_option linter.unusedVariables false

section
variable {E : Env} {ops : Array Oper} {nt : Nat} {F : Fx} {w0 : World} {D X : Array Bool} {s : DS} {ρ : Rho} {tmps : Array Value} {w : World}
/-- The reckoning goes on, up to an act or to its end. -/
theorem Inv.norm (hssa : ssaB ops = true) {N : Nat} {sF : DS} : ∀ (l : List Nat) {X : Array Bool} {s : DS}, Inv E ops nt F w0 D X s ρ tmps w → goD E N ops nt l X s = some sF →
    ∃ X1 s1, Inv E ops nt F w0 D X1 s1 ρ tmps w ∧ (∃ l1, goD E N ops nt l1 X1 s1 = some sF) ∧ ((Region.ready .any ops X1 = [] ∧ s1 = sF) ∨
      ∃ i l2 o s2, i ∈ Region.ready .any ops X1 ∧ (∀ j ∈ Region.ready .any ops X1, j = i) ∧ ops[i]? = some o ∧ wantedV ops s1.tm o.guard = true ∧ dAct E N ops nt i o s1 = some s2 ∧ goD E N ops nt l2 (X1.setIfInBounds i true) s2 = some sF)
  | [], X, s, h, hg => by
    have hg0 := hg
    unfold goD at hg
    split at hg
    · rename_i hr
      cases hg
      exact ⟨X, _, h, ⟨_, hg0⟩, .inl ⟨hr, rfl⟩⟩
    · cases hg
  | i :: l, X, s, h, hg => by
    have hg0 := hg
    unfold goD at hg
    split at hg
    · cases hg
    rename_i o ho
    have ho : ops[i]? = some o := by simpa using ho
    split at hg
    · cases hg
    rename_i hin
    have hi := isIn_mem hin
    obtain ⟨hnX, _, hpX⟩ := (ready_iff h.xsz).1 hi
    have hself : ∀ {v : V} {tm' : Tr V}, putTm nt s.tm o.dst v = some tm' → ∀ t ∈ o.looksAt ops, tm'.get t = s.tm.get t := fun hput t ht =>
      put_get hput t fun e => no_look hssa h.xcl hnX hpX ho ho e ht
    have hevs : ∀ {v : V} {tm' : Tr V}, putTm nt s.tm o.dst v = some tm' → ∀ x ∈ o.op.operands, evO E.T.g s.tm x = evO E.T.g tm' x := fun hput x hx => (ev_same fun t e => hself hput t (op_look (e ▸ hx))).symm
    split at hg
    · rename_i hwf
      split at hg
      · rename_i s' hu
        unfold dUnw at hu
        split at hu
        · rename_i tm hput
          cases hu
          have hw' : wantedV ops tm o.guard = false := (wanted_same (hself hput)).trans hwf
          exact Inv.norm hssa l (h.adv hssa hi ho hput (.inl ⟨rfl, rfl⟩) (fun k hk => hk) (.inl ⟨hw', put_self hput⟩) (fun e => by rw [hw'] at e; cases e)) hg
        · cases hu
      · cases hg
    · rename_i hwt
      split at hg
      · rename_i hsil
        split at hg
        · rename_i s' hu
          unfold dSil at hu
          split at hu
          · rename_i v m1 hex
            split at hu
            · rename_i tm hput
              cases hu
              have hw' : wantedV ops tm o.guard = true := (wanted_same (hself hput)).trans hwt
              have hrd : ∀ k ∈ s.rd, k ∈ (bif readsB o.op then i :: s.rd else s.rd) := fun k hk => by
                cases readsB o.op
                · exact hk
                · exact List.mem_cons_of_mem _ hk
              refine Inv.norm hssa l (h.adv hssa hi ho hput (.inl ⟨rfl, rfl⟩) hrd (.inr (.inl ⟨hw', hsil, v, m1, ?_, put_self hput⟩)) (fun _ _ e => ?_)) hg
              · rw [← exOp_congr o.op _ (hevs hput)]; exact hex
              · rw [e]; exact List.mem_cons_self
            · cases hu
          · cases hu
        · cases hg
      · rename_i hsil
        split at hg
        · rename_i s' hu
          unfold dFlt at hu
          split at hu
          · rename_i t vs ref hfl
            split at hu
            · rename_i tm hput
              cases hu
              have hw' : wantedV ops tm o.guard = true := (wanted_same (hself hput)).trans hwt
              refine Inv.norm hssa l (h.adv hssa hi ho hput (.inr ⟨_, _, _, rfl, rfl, hw', hsil⟩) (fun k hk => hk) (.inr (.inr ⟨hw', t, vs, ref, s.m.nx, ?_, by simp, Tr.get_set_self _ _ _, put_self hput⟩)) (fun _ e => ?_)) hg
              · rw [← floatV_congr o.op (hevs hput)]; exact hfl
              · rw [hsil] at e; cases e
            · cases hu
          · cases hu
        · split at hg
          · rename_i hone
            split at hg
            · rename_i s2 hact
              exact ⟨X, s, h, ⟨_, hg0⟩, .inr ⟨i, l, o, s2, hi, isOne_mem hone, ho, hwt, hact, hg⟩⟩
            · cases hg
          · cases hg

/-- All have come up, or one may. -/
theorem ready_nil (hback : backB ops = true) (hs : D.size = ops.size) (hr : Region.ready .any ops D = []) : ∀ n i, i < n → i < ops.size → Lst D i
  | 0, i, h, _ => by omega
  | n + 1, i, h, hi => by
    by_cases hl : Lst D i
    · exact hl
    · have : i ∈ Region.ready .any ops D := (ready_iff hs).2 ⟨hl, ⟨ops[i], by simp [hi]⟩, fun o ho e he hb => by
        have hb0 := hback
        unfold backB at hb0
        rw [List.all_eq_true] at hb0
        have h1 := hb0 (o, i) (by rw [List.mem_zipIdx_iff_getElem?]; simpa using ho)
        rw [List.all_eq_true] at h1
        have h2 := h1 e (by simpa using he)
        rw [Bool.or_eq_true] at h2
        rcases h2 with h2 | h2
        · rw [hb] at h2; cases h2
        · have h2 := blt_lt h2
          have h2 : e.on < i := h2
          exact ready_nil hback hs hr n e.on (by omega) (by omega)⟩
      rw [hr] at this; cases this
theorem pids_nil {fl : List (Nat × Nat)} (h : ∀ j id, (j, id) ∈ fl → Lst D j) : pids D fl = [] := by
  cases he : pids D fl with
  | nil => rfl
  | cons a as =>
    have : a ∈ pids D fl := by rw [he]; simp
    rw [pids_mem] at this
    obtain ⟨j, h1, h2⟩ := this
    exact absurd (h j a h1) h2
theorem count_set {i : Nat} (hi : i < D.size) (hn : ¬ Lst D i) : (D.setIfInBounds i true).toList.count false + 1 = D.toList.count false := by
  rw [Array.toList_setIfInBounds, List.count_set (by simpa using hi)]
  have hf : D.toList[i] = false := by
    unfold Lst at hn
    simp only [Array.getD, hi, dif_pos] at hn
    simpa using hn
  have hc : 0 < D.toList.count false := List.count_pos_iff.2 (by rw [← hf]; exact List.getElem_mem _)
  rw [hf]
  have e1 : ((false : Bool) == false) = true := rfl
  have e2 : ((true : Bool) == false) = false := rfl
  rw [e1, e2, if_pos rfl, if_neg (by simp)]
  omega
theorem count_zero (h : D.toList.count false = 0) {i : Nat} (hi : i < D.size) : Lst D i := by
  rw [List.count_eq_zero] at h
  unfold Lst
  simp only [Array.getD, hi, dif_pos]
  cases e : D[i] with
  | true => simpa using e
  | false => exact absurd (by rw [← e]; simp) h

theorem Inv.done (h : Inv E ops nt F w0 D X s ρ tmps w) (hall : ∀ i, i < ops.size → Lst D i) : TmRel ρ nt s.tm tmps ∧ RM F w0 ρ s.m w := by
  have hin : ∀ j, Lst X j → Lst D j := fun j hj => hall j (by have := hj.lt; rw [h.xsz] at this; exact this)
  refine ⟨⟨h.tsz, fun i hi => h.tout i (by have := h.tsz; omega), fun i x hx => ?_⟩, ?_⟩
  · rcases h.tm i x hx with ⟨j, h1, h2, _⟩ | h1
    · exact absurd (hin j h1) h2
    · exact h1
  · have := h.rm
    rw [pids_nil fun j id hj => hin j (h.flx j id hj).1] at this
    exact this

theorem Inv.main (hE : EnvOk E) (hssa : ssaB ops = true) (hback : backB ops = true) {N : Nat} {sF : DS} (dfs : List Deferred) (b : Frame) (k : List Item) (cs : List Frame) : ∀ (fuel t : Nat) {D X : Array Bool} {s : DS} {ρ : Rho} {tmps : Array Value} {w : World} (l : List Nat),
    Inv E ops nt F w0 D X s ρ tmps w → goD E N ops nt l X s = some sF → D.toList.count false ≤ fuel →
    ∃ ρ' w' tmps', Ext ρ ρ' ∧ TmRel ρ' nt sF.tm tmps' ∧ RM F w0 ρ' sF.m w' ∧ Steps E.P (lone (b.atR ⟨tmps, dfs⟩ (.inRegion ops (Region.linearise.go .any ops fuel t D []) :: k)) cs w) (lone (b.atR ⟨tmps', dfs⟩ (.inRegion ops [] :: k)) cs w') := by
  have over : ∀ {D X : Array Bool} {s : DS} {ρ : Rho} {tmps : Array Value} {w : World} (l : List Nat), Inv E ops nt F w0 D X s ρ tmps w → goD E N ops nt l X s = some sF → (∀ i, i < ops.size → Lst D i) →
      ∃ ρ' w' tmps', Ext ρ ρ' ∧ TmRel ρ' nt sF.tm tmps' ∧ RM F w0 ρ' sF.m w' ∧ Steps E.P (lone (b.atR ⟨tmps, dfs⟩ (.inRegion ops [] :: k)) cs w) (lone (b.atR ⟨tmps', dfs⟩ (.inRegion ops [] :: k)) cs w') := by
    intro D X s ρ tmps w l h hg hall
    obtain ⟨X1, s1, h1, hg1, h2⟩ := h.norm hssa l hg
    rcases h2 with ⟨_, rfl⟩ | ⟨i, l2, o, s2, e1, _, e3, _⟩
    · obtain ⟨q1, q2⟩ := h1.done hall
      exact ⟨ρ, w, tmps, Ext.refl ρ, q1, q2, Steps.refl _ _⟩
    · have := (ready_iff h1.xsz).1 e1
      exact absurd (h1.sub i (hall i (Array.getElem?_eq_some_iff.1 e3).1)) this.1
  intro fuel
  induction fuel with
  | zero =>
    intro t D X s ρ tmps w l h hg hc
    simp only [Region.linearise.go, List.reverse_nil]
    exact over l h hg fun i hi => count_zero (by omega) (by rw [h.dsz]; exact hi)
  | succ fuel ih =>
    intro t D X s ρ tmps w l h hg hc
    simp only [Region.linearise.go]
    change ∃ ρ' w' tmps', Ext ρ ρ' ∧ TmRel ρ' nt sF.tm tmps' ∧ RM F w0 ρ' sF.m w' ∧ Steps E.P (lone (b.atR ⟨tmps, dfs⟩ (.inRegion ops (match (Region.ready .any ops D)[t % (Region.ready .any ops D).length]? with
      | some i => Region.linearise.go .any ops fuel (t / (Region.ready .any ops D).length) (D.setIfInBounds i true) [i]
      | none => [].reverse) :: k)) cs w) (lone (b.atR ⟨tmps', dfs⟩ (.inRegion ops [] :: k)) cs w')
    cases hi : (Region.ready .any ops D)[t % (Region.ready .any ops D).length]? with
    | none =>
      have hnil : Region.ready .any ops D = [] := by
        cases hr : Region.ready .any ops D with
        | nil => rfl
        | cons x xs =>
          rw [hr] at hi
          have hlt : t % (x :: xs).length < (x :: xs).length := Nat.mod_lt _ (by simp)
          simp at hi
          simp at hlt
          omega
      simp only [List.reverse_nil]
      exact over l h hg fun i hi => ready_nil hback h.dsz hnil (i + 1) i (by omega) hi
    | some i =>
      simp only []
      rw [linearise_go_acc, List.reverse_singleton, List.singleton_append]
      have hiD := List.mem_of_getElem? hi
      obtain ⟨X1, s1, h1, hg1, h2⟩ := h.norm hssa l hg
      obtain ⟨hn, ⟨o, ho⟩, hp⟩ := (ready_iff h.dsz).1 hiD
      have hlt : i < D.size := by rw [h.dsz]; exact (Array.getElem?_eq_some_iff.1 ho).1
      have hc' : (D.setIfInBounds i true).toList.count false ≤ fuel := by have := count_set hlt hn; omega
      by_cases hX : Lst X1 i
      · obtain ⟨ρ1, x, w1, k1, k2, k3⟩ := h1.catch hssa hiD hX ho dfs b k (Region.linearise.go .any ops fuel (t / (Region.ready .any ops D).length) (D.setIfInBounds i true) []) cs
        rw [act_put_tmps] at k2
        obtain ⟨l1, hg1⟩ := hg1
        obtain ⟨ρ2, w2, tmps2, q1, q2, q3, q4⟩ := ih _ l1 k3 hg1 hc'
        exact ⟨ρ2, w2, tmps2, k1.trans q1, q2, q3, .head k2 q4⟩
      · have hiX : i ∈ Region.ready .any ops X1 := (ready_iff h1.xsz).2 ⟨hX, ⟨o, ho⟩, fun o' ho' e he hb => h1.sub _ (hp o' ho' e he hb)⟩
        rcases h2 with ⟨hr, _⟩ | ⟨i2, l2, o2, s2, e1, e2, e3, e4, e5, e6⟩
        · rw [hr] at hiX; cases hiX
        · have := e2 i hiX
          subst this
          obtain ⟨ρ1, x, w1, k1, k2, k3⟩ := h1.act hE hssa hiD hX e3 e4 e5 dfs b k (Region.linearise.go .any ops fuel (t / (Region.ready .any ops D).length) (D.setIfInBounds i true) []) cs
          rw [ho] at e3; cases e3
          rw [act_put_tmps] at k2
          obtain ⟨ρ2, w2, tmps2, q1, q2, q3, q4⟩ := ih _ l2 k3 e6 hc'
          exact ⟨ρ2, w2, tmps2, k1.trans q1, q2, q3, k2.trans q4⟩
end
end Go.CE
