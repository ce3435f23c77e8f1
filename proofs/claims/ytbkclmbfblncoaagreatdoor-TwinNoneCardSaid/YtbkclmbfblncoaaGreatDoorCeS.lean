/-
  CLOSED EVALUATION, 19: an act, in the reckoned order and in the program.
-/
import Derived.Test.YtbkclmbfblncoaaGreatDoorCeR
noncomputable section
namespace Go.CE
open Go
set_option linter.unusedSimpArgs false
set_option linter.unusedVariables false

theorem actV_congr {E : Env} {N : Nat} {o : Oper} {ev ev' : Operand → Option V} (m : Mem) (h : ∀ x ∈ o.op.operands, ev x = ev' x) : actV E N o ev m = actV E N o ev' m := by
  unfold actV
  cases hop : opC o.op with
  | plain => simp only; exact exOp_congr o.op m h
  | defr c => rfl
  | pan x => rfl
  | rcv => rfl
  | call c =>
    simp only
    rw [calleeV_congr c fun x hx => h x (by rw [opC_call hop]; exact hx)]
theorem actV_ok {E : Env} (hE : EnvOk E) {N : Nat} {ops : Array Oper} {i : Nat} {o : Oper} {ev : Operand → Option V} {m m1 : Mem} {v : V} (ha : actV E N o ev m = some (v, m1)) {F : Fx} {w0 w : World} {ρ : Rho} {tmps : Array Value} {dfs : List Deferred}
    (hev : ∀ x v, ev x = some v → RelV ρ v ((⟨tmps, dfs⟩ : Act).eval x)) (hm : RM F w0 ρ m w) (hg : Glo E.T.g ρ) (ho : ops[i]? = some o) (hwant : Region.wanted o (yielded ops tmps) = true) (b : Frame) (k : List Item) (rest : List Nat) (cs : List Frame) :
    ∃ ρ1 x w1, Ext ρ ρ1 ∧ RelV ρ1 v x ∧ RM F w0 ρ1 m1 w1 ∧
      Steps E.P (lone (b.atR ⟨tmps, dfs⟩ (.inRegion ops (i :: rest) :: k)) cs w) (lone (b.atR ((⟨tmps, dfs⟩ : Act).put o.dst x) (.inRegion ops rest :: k)) cs w1) := by
  unfold actV at ha
  cases hop : opC o.op with
  | defr c => rw [hop] at ha; cases ha
  | pan x => rw [hop] at ha; cases ha
  | rcv => rw [hop] at ha; cases ha
  | plain =>
    rw [hop] at ha
    obtain ⟨ρ1, x, w1, h1, h2, h3, h4⟩ := exOp_ok hev hm ha
    rcases h2 with h2 | ⟨h2, rfl⟩
    · exact ⟨ρ1, x, w1, h1, h3, h4, .one (st_value ho hwant (exOp_nd ha) h2)⟩
    · exact ⟨ρ1, _, w1, h1, h3, h4, .one (st_skip ho hwant (exOp_nd ha) h2)⟩
  | call c =>
    rw [hop] at ha
    simp only at ha
    have hoc := opC_call hop
    split at ha
    · rename_i g as ca hc
      obtain ⟨xs, ys, h1, h2, h3⟩ := callee_rel hev hc
      have hrun : ∀ w, (execOp (⟨tmps, dfs⟩ : Act).eval o).run E.P w = (callFunc g (xs ++ ys).toArray).run E.P w := fun w => by
        unfold execOp
        simp only [hoc, Sem.run_bind, h3, Result.andThen_ok, invoke]
        congr 2
        apply Array.ext'; simp
      have hap := h1.append h2
      have fin : (∃ fn c0, E.P.funcs[g]? = some fn ∧ fn.body = some c0) → (Calls E.P g (List.toArray (xs ++ ys)) w fun e w' => ∃ ρ' x, e = .returned x ∧ Ext ρ ρ' ∧ RelV ρ' v x ∧ RM F w0 ρ' m1 w') →
          ∃ ρ1 x w1, Ext ρ ρ1 ∧ RelV ρ1 v x ∧ RM F w0 ρ1 m1 w1 ∧ Steps E.P (lone (b.atR ⟨tmps, dfs⟩ (.inRegion ops (i :: rest) :: k)) cs w) (lone (b.atR ((⟨tmps, dfs⟩ : Act).put o.dst x) (.inRegion ops rest :: k)) cs w1) := by
        rintro ⟨fn, c0, hf1, hf2⟩ hcall
        obtain ⟨ed, w1, fr1, ⟨ρ1, x, rfl, k1, k3, k4⟩, hcomes, hfn, hleave⟩ := hcall (b.atR ⟨tmps, dfs⟩ (.inRegion ops (i :: rest) :: k) :: cs)
        have s1 := st_enter (P := E.P) (b := b) (a := ⟨tmps, dfs⟩) (k := k) (cs := cs) (w := w) (rest := rest) ho hwant (by rw [hoc]; exact fun c h => by cases h) ((hrun w).trans (run_callFunc_body hf1 hf2 (hE.ng g fn hf1)))
        have s2 := step_leave_returned (c := b.atR ⟨tmps, dfs⟩ (.inRegion ops (i :: rest) :: k)) (cs := cs) hleave
        rw [fin_at ho] at s2
        have hcomes : Steps E.P _ _ := hcomes
        exact ⟨ρ1, x, w1, k1, k3, k4, .head s1 (hcomes.trans (.one s2))⟩
      split at ha
      · rename_i e hext
        obtain ⟨ρ1, x, w1, k1, k2, k3, k4⟩ := hE.ext g e _ m v m1 hext ha F w0 ρ w _ hm hap
        exact ⟨ρ1, x, w1, k1, k3, k4, .one (st_value ho hwant (by rw [hoc]; exact fun c h => by cases h) ((hrun w).trans k2))⟩
      · split at ha
        · rename_i e hsum
          obtain ⟨hb, hcall⟩ := hE.sum g e _ m v m1 hsum ha
          exact fin hb (hcall F w0 ρ w _ hm hg hap)
        · refine fin ?_ (callE_ok hE ha hm hg hap)
          unfold callE entGo at ha
          split at ha
          · cases ha
          · rename_i nt c hen
            unfold enterV at hen
            split at hen
            · cases hen
            · rename_i fn hfn
              split at hen
              · cases hen
              · rename_i c' hc'
                exact ⟨fn, c', hfn, hc'⟩
    · cases ha

section
variable {E : Env} {ops : Array Oper} {nt : Nat} {F : Fx} {w0 : World} {D X : Array Bool} {s : DS} {ρ : Rho} {tmps : Array Value} {w : World}
/-- Both carry out an operation that may change memory. -/
theorem Inv.act (hE : EnvOk E) (hssa : ssaB ops = true) (h : Inv E ops nt F w0 D X s ρ tmps w) {i : Nat} {o : Oper} (hi : i ∈ Region.ready .any ops D) (hnX : ¬ Lst X i) (ho : ops[i]? = some o) (hwant : wantedV ops s.tm o.guard = true) {N : Nat} {s' : DS} (ha : dAct E N ops nt i o s = some s')
    (dfs : List Deferred) (b : Frame) (k : List Item) (rest : List Nat) (cs : List Frame) :
    ∃ ρ' x w', Ext ρ ρ' ∧ Steps E.P (lone (b.atR ⟨tmps, dfs⟩ (.inRegion ops (i :: rest) :: k)) cs w) (lone (b.atR ((⟨tmps, dfs⟩ : Act).put o.dst x) (.inRegion ops rest :: k)) cs w') ∧
      Inv E ops nt F w0 (D.setIfInBounds i true) (X.setIfInBounds i true) s' ρ' ((⟨tmps, dfs⟩ : Act).put o.dst x).tmps w' := by
  obtain ⟨hn, _, hp⟩ := (ready_iff h.dsz).1 hi
  have hltD : i < D.size := by rw [h.dsz]; exact (Array.getElem?_eq_some_iff.1 ho).1
  have hltX : i < X.size := by rw [h.xsz]; exact (Array.getElem?_eq_some_iff.1 ho).1
  have hD : ∀ j, Lst (D.setIfInBounds i true) j ↔ j = i ∨ Lst D j := fun j => lst_set hltD
  have hX : ∀ j, Lst (X.setIfInBounds i true) j ↔ j = i ∨ Lst X j := fun j => lst_set hltX
  have hw := wanted_rel' (ρ := ρ) (tm := s.tm) (tmps := tmps) ops o (fun j hj => h.tout j (by have := h.tsz; omega)) (h.looks hssa hp ho)
  -- what was reckoned
  unfold dAct at ha
  split at ha
  · cases ha
  rename_i v m1 hact
  split at ha
  · cases ha
  rename_i tm hput
  generalize hs' : (⟨tm, ⟨m1.nx, backAll s.m.t m1.t (hidIds ops i s.fl)⟩, s.fl, s.rd⟩ : DS) = s1 at ha
  split at ha
  rotate_left
  · cases ha
  rename_i hall
  cases ha
  rw [List.all_eq_true] at hall
  rw [actV_congr (ev' := evm E.T.g o ops s.tm) _ fun x hx => (evm_eq hx).symm] at hact
  -- the world as the act sees it
  have pend : ∀ j, j ∈ pids D s.fl → ρ j = none := fun j hj => by
    rw [pids_mem] at hj
    obtain ⟨q, q1, q2⟩ := hj
    exact h.pn q j q1 q2
  have plt : ∀ j, j ∈ pids D s.fl → j < s.m.nx := fun j hj => by
    rw [pids_mem] at hj
    obtain ⟨q, q1, q2⟩ := hj
    exact (h.flx q j q1).2
  have hp' : ∀ j, (ρ.hole j ∨ j ∈ pids D s.fl) → ρ j = none := fun j hj => hj.elim (ρ.hok j) (pend j)
  let ρh : Rho := ρ.holes (fun j => ρ.hole j ∨ j ∈ pids D s.fl) hp'
  have hρh : ∀ j, ρh j = ρ j := fun j => rfl
  let F' : Fx := ⟨fun r => F.k r ∨ ∃ id bb c, id ∈ hidIds ops i s.fl ∧ s.m.t.get id = some bb ∧ ρ id = some (r, c), F.g⟩
  have hhid : ∀ id bb r c, id ∈ hidIds ops i s.fl → s.m.t.get id = some bb → ρ id = some (r, c) → (hideM s.m (pids D s.fl)).t.get id = some bb := fun id bb r c h1 h2 h3 => by
    rw [get_hideM, if_neg]
    · exact h2
    · intro hh; rw [pend id hh] at h3; cases h3
  have hsubP : Sub (hideM s.m (hidIds ops i s.fl)) (hideM s.m (pids D s.fl)) := sub_hide h hp
  have hvis : ∀ k bb, (hideM s.m (hidIds ops i s.fl)).t.get k = some bb → k ∉ hidIds ops i s.fl := fun k bb hk hh => by
    rw [get_hideM, if_pos hh] at hk; cases hk
  have hkeepF : ∀ k bb r c, (hideM s.m (hidIds ops i s.fl)).t.get k = some bb → ρ k = some (r, c) → ¬ F.k r → ¬ F'.k r := fun k bb r c hk hr hF hF' => by
    rcases hF' with hF' | ⟨id, b2, c2, h1, h2, h3⟩
    · exact hF hF'
    · have := h.rm.inj k id bb b2 r c c2 (hsubP _ _ hk) (hhid id b2 r c2 h1 h2 h3) hr h3
      subst this
      exact hvis _ _ hk h1
  have hrmh : RM F' w ρh (hideM s.m (hidIds ops i s.fl)) w := by
    refine ⟨fun k bb hk => ?_, fun a c ba bc r c' c'' ha hc hra hrc => h.rm.inj a c ba bc r c' c'' (hsubP _ _ ha) (hsubP _ _ hc) hra hrc, fun j hj => ⟨(h.rm.fresh j hj).1, fun hh => ?_⟩, fun r hr => ?_, Nat.le_trans h.rm.gsz h.rm.size, Nat.le_refl _, fun _ _ => rfl, rfl, rfl, rfl⟩
    · obtain ⟨r, c, h1, h2⟩ := h.rm.blk k bb (hsubP _ _ hk)
      refine ⟨r, c, h1, ?_⟩
      cases bb with
      | row wr t n cs =>
        obtain ⟨k0, k1, xs, fr, k2, k3, k4, k5⟩ := h2
        exact ⟨fun hwr => ⟨hkeepF k _ r c hk h1 (k0 hwr).1, (k0 hwr).2⟩, k1, xs, fr, k2, k3, k4.monoF (ρ := ρ) (ρ' := ρh) (fun _ _ e => e), k5⟩
      | gro t es n cs =>
        obtain ⟨k0, xs, fr, k2, k3, k4, k5, k6⟩ := h2
        exact ⟨⟨hkeepF k _ r c hk h1 k0.1, k0.2⟩, xs, fr, k2, k3, k4, k5.monoF (ρ := ρ) (ρ' := ρh) (fun _ _ e => e), k6⟩
      | ints kk n cs =>
        obtain ⟨k0, rest⟩ := h2
        exact ⟨⟨hkeepF k _ r c hk h1 k0.1, k0.2⟩, rest⟩
      | oth o =>
        obtain ⟨k0, y, k2, k3⟩ := h2
        exact ⟨⟨hkeepF k _ r c hk h1 k0.1, k0.2⟩, y, k2, k3.monoF (ρ := ρ) (ρ' := ρh) (fun _ _ e => e)⟩
    · have hj : s.m.nx ≤ j := hj
      exact hh.elim (h.rm.fresh j hj).2 fun hh => by have := plt j hh; omega
    · rcases hr with hr | ⟨id, b2, c2, h1, h2, h3⟩
      · have := h.rm.fn r hr; have := h.rm.size; omega
      · exact h.rm.lt (hhid id b2 r c2 h1 h2 h3) h3
  obtain ⟨ρ1, x, w1, k1, k2, k3, k4⟩ := actV_ok (ops := ops) (i := i) (dfs := dfs) hE hact (fun x v hv => RelV.monoF (ρ := ρ) (ρ' := ρh) (fun _ _ e => e) _ _ (h.evm_rel hssa hp ho dfs x v hv)) hrmh (fun g hg => h.glo g hg) ho (hw.trans hwant) b k rest cs
  have hole1 : ∀ j, ρ.hole j ∨ j ∈ pids D s.fl → ρ1 j = none := fun j hj => ρ1.hok j (by rw [k1.2]; exact hj)
  let ρ2 : Rho := ρ1.holes ρ.hole (fun j hj => hole1 j (.inl hj))
  have hx : Ext ρ ρ2 := ⟨fun j q hq => k1.1 j q hq, rfl⟩
  have hv2 : RelV ρ2 v x := RelV.monoF (ρ := ρ1) (ρ' := ρ2) (fun _ _ e => e) _ _ k2
  have hnx : ∀ j, (∃ q, ρ j = some q) ∨ j ∈ pids D s.fl → j < m1.nx := fun j hj => by
    rcases Nat.lt_or_ge j m1.nx with h1 | h1
    · exact h1
    · have hf := k3.fresh j h1
      rcases hj with ⟨q, hq⟩ | hj
      · have hh : ρ1 j = some q := k1.1 j q hq
        rw [hf.1] at hh; cases hh
      · exact absurd (by rw [k1.2]; exact .inr hj) hf.2
  have hgetm : ∀ j, (backAll s.m.t m1.t (hidIds ops i s.fl)).get j = if j ∈ hidIds ops i s.fl ∧ (s.m.t.get j).isSome then s.m.t.get j else m1.t.get j := fun j => get_backAll _ _ _ _
  have flm : ∀ j id, (j, id) ∈ s.fl → (∃ q, ρ id = some q) ∨ id ∈ pids D s.fl := fun j id hj => by
    by_cases hd : Lst D j
    · obtain ⟨r, c, h1, _⟩ := h.dn j id hj hd
      exact .inl ⟨_, h1⟩
    · exact .inr (by rw [pids_mem]; exact ⟨j, hj, hd⟩)
  have hidfl : ∀ id, id ∈ hidIds ops i s.fl → ∃ j, (j, id) ∈ s.fl := fun id hh => by
    rw [hid_mem] at hh
    obtain ⟨j, h1, _⟩ := hh
    exact ⟨j, h1⟩
  have hidnx : ∀ id, id ∈ hidIds ops i s.fl → id < m1.nx := fun id hh => by
    obtain ⟨j, hj⟩ := hidfl id hh
    exact hnx id (flm j id hj)
  have pidsame : ∀ id, id ∈ pids (D.setIfInBounds i true) s.fl ↔ id ∈ pids D s.fl := fun id => by
    rw [pids_mem, pids_mem]
    constructor
    · rintro ⟨j, h1, h2⟩; exact ⟨j, h1, fun hh => h2 ((hD j).2 (.inr hh))⟩
    · rintro ⟨j, h1, h2⟩
      refine ⟨j, h1, fun hh => ?_⟩
      rcases (hD j).1 hh with rfl | hh
      · exact hnX (h.flx _ _ h1).1
      · exact h2 hh
  have hpend : ∀ id, id ∈ pids D s.fl → id ∈ hidIds ops i s.fl := hid_pids h hp
  -- memory behind it
  have hrm2 : RM F w0 ρ2 (hideM ⟨m1.nx, backAll s.m.t m1.t (hidIds ops i s.fl)⟩ (pids (D.setIfInBounds i true) s.fl)) w1 := by
    have look : ∀ j bb, (hideM ⟨m1.nx, backAll s.m.t m1.t (hidIds ops i s.fl)⟩ (pids (D.setIfInBounds i true) s.fl)).t.get j = some bb →
        (j ∈ hidIds ops i s.fl ∧ s.m.t.get j = some bb ∧ (hideM s.m (pids D s.fl)).t.get j = some bb) ∨ m1.t.get j = some bb := fun j bb hj => by
      rw [get_hideM] at hj
      split at hj
      · cases hj
      · rename_i hnp
        have hnp : j ∉ pids D s.fl := fun hh => hnp ((pidsame j).2 hh)
        have hj : (backAll s.m.t m1.t (hidIds ops i s.fl)).get j = some bb := hj
        rw [hgetm] at hj
        split at hj
        · rename_i hh
          exact .inl ⟨hh.1, hj, by rw [get_hideM, if_neg hnp]; exact hj⟩
        · exact .inr hj
    have real : ∀ j bb, j ∈ hidIds ops i s.fl → s.m.t.get j = some bb → (hideM s.m (pids D s.fl)).t.get j = some bb → ∃ r c, ρ j = some (r, c) ∧ F'.k r ∧ F.g ≤ r ∧ BlkRel F ρ w r c bb := fun j bb h1 h2 h3 => by
      obtain ⟨r, c, h4, h5⟩ := h.rm.blk j bb h3
      obtain ⟨q, hq⟩ := hidfl j h1
      have hqD : Lst D q := by
        by_cases hd : Lst D q
        · exact hd
        · have := h.pn q j hq hd; rw [this] at h4; cases h4
      obtain ⟨r', c', h6, h7⟩ := h.dn q j hq hqD
      rw [h4] at h6; cases h6
      exact ⟨r, c, h4, .inr ⟨j, bb, c, h1, h2, h4⟩, h7, h5⟩
    have apart : ∀ j bb a ba r c c', m1.t.get j = some bb → ρ1 j = some (r, c) → a ∈ hidIds ops i s.fl → s.m.t.get a = some ba → (hideM s.m (pids D s.fl)).t.get a = some ba → ρ1 a = some (r, c') → False := by
      intro j bb a ba r c c' g1 g2 g3 g4 g5 g6
      obtain ⟨r', c2, e1, e2, e3, _⟩ := real a ba g3 g4 g5
      have := k1.1 a _ e1
      have g6' : ρ1 a = some (r', c2) := this
      rw [g6] at g6'; cases g6'
      have hb := k3.at g1 g2
      cases bb with
      | row wr t n cs =>
        obtain ⟨q0, q1, _⟩ := hb
        cases wr with
        | true => exact (q0 rfl).1 e2
        | false =>
          have := q1 rfl
          have hg : F'.g = F.g := rfl
          omega
      | gro t es n cs => exact hb.1.1 e2
      | ints kk n cs => exact hb.1.1 e2
      | oth o => exact hb.1.1 e2
    refine ⟨fun j bb hj => ?_, fun a c ba bc r c' c'' ha hc hra hrc => ?_, fun j hj => ?_, h.rm.fn, h.rm.gsz, Nat.le_trans h.rm.size k3.size, fun r hr => (k3.keep r (.inl hr)).trans (h.rm.keep r hr), k3.os.trans h.rm.os, k3.tape.trans h.rm.tape, k3.output.trans h.rm.output⟩
    · rcases look j bb hj with ⟨g1, g2, g3⟩ | g1
      · obtain ⟨r, c, e1, e2, e3, e4⟩ := real j bb g1 g2 g3
        exact ⟨r, c, hx.1 _ _ e1, e4.move hx (k3.keep r e2)⟩
      · obtain ⟨r, c, e1, e2⟩ := k3.blk j bb g1
        refine ⟨r, c, e1, ?_⟩
        cases bb with
        | row wr t n cs =>
          obtain ⟨q0, q1, xs, fr, q2, q3, q4, q5⟩ := e2
          exact ⟨fun hwr => ⟨fun hF => (q0 hwr).1 (.inl hF), (q0 hwr).2⟩, q1, xs, fr, q2, q3, q4.monoF (ρ := ρ1) (ρ' := ρ2) (fun _ _ e => e), q5⟩
        | gro t es n cs =>
          obtain ⟨q0, xs, fr, q2, q3, q4, q5, q6⟩ := e2
          exact ⟨⟨fun hF => q0.1 (.inl hF), q0.2⟩, xs, fr, q2, q3, q4, q5.monoF (ρ := ρ1) (ρ' := ρ2) (fun _ _ e => e), q6⟩
        | ints kk n cs =>
          obtain ⟨q0, rest⟩ := e2
          exact ⟨⟨fun hF => q0.1 (.inl hF), q0.2⟩, rest⟩
        | oth o =>
          obtain ⟨q0, y, q2, q3⟩ := e2
          exact ⟨⟨fun hF => q0.1 (.inl hF), q0.2⟩, y, q2, q3.monoF (ρ := ρ1) (ρ' := ρ2) (fun _ _ e => e)⟩
    · rcases look a ba ha with ⟨g1, g2, g3⟩ | g1 <;> rcases look c bc hc with ⟨e1, e2, e3⟩ | e1
      · obtain ⟨r1, c1, f1, _⟩ := real a ba g1 g2 g3
        obtain ⟨r2, c2, f2, _⟩ := real c bc e1 e2 e3
        have f1' : ρ2 a = _ := hx.1 _ _ f1
        have f2' : ρ2 c = _ := hx.1 _ _ f2
        rw [hra] at f1'; rw [hrc] at f2'
        cases f1'; cases f2'
        exact h.rm.inj a c ba bc _ _ _ g3 e3 f1 f2
      · exact (apart c bc a ba r c'' c' e1 hrc g1 g2 g3 hra).elim
      · exact (apart a ba c bc r c' c'' g1 hra e1 e2 e3 hrc).elim
      · exact k3.inj a c ba bc r c' c'' g1 e1 hra hrc
    · have hf := k3.fresh j hj
      exact ⟨hf.1, fun hh => hf.2 (by rw [k1.2]; exact .inl hh)⟩
  have hxp : ∀ j, Lst X j → Preds ops X j := fun j hj => h.xpreds hj
  have hnl : ∀ j oj, Preds ops X j → ops[j]? = some oj → ∀ t ∈ oj.looksAt ops, tm.get t = s.tm.get t := fun j oj hpj hoj t ht =>
    put_get hput t fun e => no_look hssa h.xcl hnX hpj ho hoj e ht
  have hnd : ∀ j oj, j ≠ i → ops[j]? = some oj → ∀ t, oj.dst = some t → tm.get t = s.tm.get t := fun j oj hne hoj t ht =>
    put_get hput t fun e => (ssa_at hssa hoj ho e).1 hne ht
  refine ⟨ρ2, x, w1, hx, k4, ?_⟩
  subst hs'
  refine ⟨by simpa using h.dsz, by simpa using h.xsz, fun j hj => (hX j).2 (((hD j).1 hj).imp id (h.sub j)), fun j oj hj hoj e he hb => (hD _).2 ?_, fun j oj hj hoj e he hb => (hX _).2 ?_, by rw [put_tmps_size]; exact h.tsz, put_out hput h.tout, fun t y hy => ?_, fun j oj hj hnj hoj => ?_, fun j id hj => ?_, h.flu,
    fun j id hj hnj => ?_, fun j bb hj => ?_, fun j id hj hd => ?_, hrm2, h.glo.mono hx, fun j id hj oj hoj => ?_, fun j id hj hnj => h.nh j id hj (fun hh => hnj ((hD j).2 (.inr hh))), fun j oj hj hnj hoj hw hs hr => ?_⟩
  · rcases (hD j).1 hj with rfl | hj
    · rw [ho] at hoj; cases hoj; exact .inr (hp o ho e he hb)
    · exact .inr (h.dcl j oj hj hoj e he hb)
  · rcases (hX j).1 hj with rfl | hj
    · rw [ho] at hoj; cases hoj; exact .inr (h.sub _ (hp o ho e he hb))
    · exact .inr (h.xcl j oj hj hoj e he hb)
  · rcases put_tmps_get hy with ⟨hd, rfl⟩ | ⟨hd, hy⟩
    · refine .inr ?_
      have := (put_self hput t hd).2
      unfold tmGet
      show RelV ρ2 (match tm.get t with | some v => v | none => undefV) _
      rw [this]; exact hv2
    · rcases h.tm t y hy with ⟨j, h1, h2, oj, h3, h4⟩ | h1
      · refine .inl ⟨j, (hX j).2 (.inr h1), fun hh => ?_, oj, h3, h4⟩
        rcases (hD j).1 hh with rfl | hh
        · exact hnX h1
        · exact h2 hh
      · refine .inr ?_
        unfold tmGet at h1 ⊢
        show RelV ρ2 (match tm.get t with | some v => v | none => undefV) _
        rw [put_get hput t hd]; exact RelV.mono hx _ _ h1
  · have hne : j ≠ i := fun e => hnj ((hD j).2 (.inl e))
    have hjX : Lst X j := ((hX j).1 hj).resolve_left hne
    have hjD : ¬ Lst D j := fun hh => hnj ((hD j).2 (.inr hh))
    have hlk := hnl j oj (hxp j hjX) hoj
    have hdd := hnd j oj hne hoj
    have hw' : wantedV ops tm oj.guard = wantedV ops s.tm oj.guard := wanted_same hlk
    have hev : ∀ x ∈ oj.op.operands, evO E.T.g s.tm x = evO E.T.g tm x := fun x hx => (ev_same fun t e => hlk t (op_look (e ▸ hx))).symm
    have hds : ∀ v, DstIs nt s.tm oj v → DstIs nt tm oj v := fun v hv d hd' => by
      have := hv d hd'
      exact ⟨this.1, by rw [hdd d hd']; exact this.2⟩
    rcases h.pv j oj hjX hjD hoj with ⟨h1, h2⟩ | ⟨h1, h2, u, m2, h3, h4⟩ | ⟨h1, t, vs, ref, id, h3, h4, h5, h6⟩
    · exact .inl ⟨hw'.trans h1, hds _ h2⟩
    · refine .inr (.inl ⟨hw'.trans h1, h2, ?_⟩)
      by_cases hr : readsB oj.op = true
      · have hrd := hall j (h.rdx j oj hjX hjD hoj h1 h2 hr)
        unfold rdOk at hrd
        rw [Bool.or_eq_true] at hrd
        rcases hrd with hrd | hrd
        · exact absurd (anc_lst h.dcl 40 j i hp hrd) hjD
        · have hoj' : ops.toList[j]? = some oj := by simpa using hoj
          rw [hoj'] at hrd
          simp only at hrd
          split at hrd
          · cases hrd
          · rename_i u' m3 hex
            split at hrd
            · rename_i hd
              exact ⟨u', m3, hex, fun d hd' => by rw [hd] at hd'; cases hd'⟩
            · rename_i d hd
              split at hrd
              · rename_i y hy
                have := V.beq_eq _ _ hrd
                have hdd' := (hds _ h4 d hd).2
                have hy : tm.get d = some y := hy
                rw [hdd'] at hy
                cases hy
                subst this
                exact ⟨_, m3, hex, hds _ h4⟩
              · cases hrd
      · have hr : readsB oj.op = false := by simpa using hr
        refine ⟨u, hideM ⟨m1.nx, backAll s.m.t m1.t (hidIds ops i s.fl)⟩ (hidIds ops j s.fl), ?_, hds _ h4⟩
        rw [exOp_congr oj.op _ hev] at h3
        exact silent_any h2 hr h3
    · refine .inr (.inr ⟨hw'.trans h1, t, vs, ref, id, ?_, h4, ?_, hds _ h6⟩)
      · rw [← floatV_congr oj.op hev]; exact h3
      · show (backAll s.m.t m1.t (hidIds ops i s.fl)).get id = _
        rw [hgetm, if_pos ⟨hpend id (by rw [pids_mem]; exact ⟨j, h4, hjD⟩), by rw [h5]; rfl⟩]; exact h5
  · have := h.flx j id hj
    exact ⟨(hX j).2 (.inr this.1), hnx id (flm j id hj)⟩
  · exact hole1 id (.inr (by rw [pids_mem]; exact ⟨j, hj, fun hh => hnj ((hD j).2 (.inr hh))⟩))
  · have hj : (backAll s.m.t m1.t (hidIds ops i s.fl)).get j = some bb := hj
    rw [hgetm] at hj
    split at hj
    · rename_i hh; exact hidnx j hh.1
    · exact k3.live hj
  · have hd' : Lst D j := ((hD j).1 hd).resolve_left fun e => hnX (e ▸ (h.flx j id hj).1)
    obtain ⟨r, c, h1, h2⟩ := h.dn j id hj hd'
    exact ⟨r, c, hx.1 _ _ h1, h2⟩
  · have := h.fk j id hj oj hoj
    exact ⟨(wanted_same (hnl j oj (hxp j (h.flx j id hj).1) hoj)).trans this.1, this.2⟩
  · have hne : j ≠ i := fun e => hnj ((hD j).2 (.inl e))
    have hjX : Lst X j := ((hX j).1 hj).resolve_left hne
    have hjD : ¬ Lst D j := fun hh => hnj ((hD j).2 (.inr hh))
    exact h.rdx j oj hjX hjD hoj ((wanted_same (hnl j oj (hxp j hjX) hoj)).symm.trans hw) hs hr
end
end Go.CE
