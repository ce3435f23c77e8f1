/-
  CLOSED EVALUATION, 12: the machine's run is the program's.
-/
import Derived.Test.YtbkclmbfblncoaaGreatDoorCeK
noncomputable section
namespace Go.CE
open Go
set_option linter.unusedSimpArgs false
set_option linter.unusedVariables false

section
variable {E : Env} {go : Go} {v : V} {m' : Mem} {F : Fx} {w0 : World} {f : FuncId} {cs : List Frame}
theorem go_next (hgo : GoOk E go v m') {ρ ρ1 : Rho} {M : Machine} {tm todo r fs m fr frs w} (hx : Ext ρ ρ1) (hs : Steps E.P M (lone fr (frs ++ cs) w)) (he : go tm todo r fs m = some (v, m'))
    (h : SRel E F w0 ρ1 tm todo r fs m fr frs w f) : Res E F w0 ρ v m' f cs M :=
  Res.step hx hs (hgo _ _ _ _ _ he F w0 ρ1 w fr frs f cs h)
/-- Behind an operation. -/
theorem put_next (hgo : GoOk E go v m') {ρ ρ1 : Rho} {M : Machine} {tm : Tr V} {r : RF} {b : Frame} {tmps : Array Value} {dfs : List Deferred} {kk : Nat} {o : Oper} {l : List Oper} {all : Array Oper} {k : List VI} {its : List Item} {fs m frs w} {u : V} {x : Value}
    (hB : BsRel ρ1 r.fn r.kind b) (hx : Ext ρ ρ1) (hs : Steps E.P M (lone (b.atR ((⟨tmps, dfs⟩ : Act).put o.dst x) (.inRegion all (List.range' (kk + 1) l.length) :: its)) (frs ++ cs) w))
    (he : putGo go l all k r fs m (putTm r.nt tm o.dst u) = some (v, m')) (hm : RM F w0 ρ1 m w) (hg : Glo E.T.g ρ1) (ht : TmRel ρ1 r.nt tm tmps) (hd : DfRel ρ1 r.df dfs) (hu : RelV ρ1 u x)
    (hl : l = all.toList.drop (kk + 1)) (hk : ItsRel ρ1 k its) (hf : FsRel ρ1 fs frs) (hb : bot r fs = f) : Res E F w0 ρ v m' f cs M := by
  unfold putGo at he
  split at he
  · cases he
  · rename_i tm1 hp
    obtain ⟨h1, h2⟩ := ht.put (dfs := dfs) hu hp
    have hd' : DfRel ρ1 r.df ((⟨tmps, dfs⟩ : Act).put o.dst x).defers := by rw [h2]; exact hd
    refine go_next hgo hx hs he ⟨hm, hg, ⟨b, _, _, hB, h1, hd', .inr (.inl ⟨_, ⟨_, _, rfl, ⟨kk + 1, rfl, hl⟩, hk⟩, rfl⟩)⟩, hf, hb⟩
theorem ent_next (hE : EnvOk E) (hgo : GoOk E go v m') {ρ : Rho} {M : Machine} {g : FuncId} {as : List V} {xs : List Value} {kind : KV} {fs m frs w} (hkd : isRnd kind = false)
    (he : entGo go kind g as fs m (enterV E.P g as) = some (v, m')) (hs : ∀ fn c, E.P.funcs[g]? = some fn → fn.body = some c → Steps E.P M (lone (Frame.enter E.P g xs.toArray kind.real) (frs ++ cs) w))
    (hm : RM F w0 ρ m w) (hg : Glo E.T.g ρ) (ha : RelL ρ as xs) (hf : FsRel ρ fs frs) (hb : ∀ nt, bot ⟨g, nt, [], kind⟩ fs = f) : Res E F w0 ρ v m' f cs M := by
  unfold entGo at he
  split at he
  · cases he
  · rename_i nt c hen
    unfold enterV at hen
    split at hen
    · cases hen
    · rename_i fn hfn
      split at hen
      · cases hen
      · rename_i c' hc
        split at hen
        · rename_i hle
          have hle := Nat.le_of_ble_eq_true hle
          cases hen
          have hs1 := hs fn c hfn hc
          rw [enter_at kind.real hfn hc] at hs1
          exact go_next hgo (Ext.refl ρ) hs1 he ⟨hm, hg, ⟨_, _, _, bs_rel hkd, tm_enter ha hle, rfl, .inr (.inl ⟨_, ⟨_, _, rfl, rfl, rfl⟩, rfl⟩)⟩, hf, hb _⟩
        · cases hen
/-- A call is over: its caller goes on. -/
theorem fin_next (hgo : GoOk E go v m') {ρ : Rho} {M : Machine} {u : V} {x : Value} {m w} {y : Fr} {fs : List Fr} {c : Frame} {frs : List Frame}
    (he : finGo go u m (y :: fs) = some (v, m')) (hs : Steps E.P M (lone (c.finish x) (frs ++ cs) w)) (hm : RM F w0 ρ m w) (hg : Glo E.T.g ρ) (hx : RelV ρ u x) (hc : FrRel ρ y c) (hf : FsRel ρ fs frs) (hb : bot y.r fs = f) : Res E F w0 ρ v m' f cs M := by
  unfold finGo at he
  split at he
  · rename_i heq; cases heq
  · rename_i tm3 o l all k r3 fs3 heq
    cases heq
    obtain ⟨b, tmps2, dfs2, q0, q1, q2, q3⟩ := hc
    rcases q3 with ⟨q3, _⟩ | ⟨its2, q3, rfl⟩ | ⟨_, _, _, q3, _⟩ | ⟨_, _, _, q3, _⟩
    · cases q3
    · obtain ⟨y, ys, rfl, ⟨kk, rfl, hl⟩, hk2⟩ := q3
      obtain ⟨ho, hl1, hr⟩ := range'_cons hl
      rw [hr, fin_at ho] at hs
      exact put_next hgo q0 (Ext.refl ρ) hs he hm hg q1 q2 hx hl1 hk2 hf hb
    · cases q3
    · cases q3
  · rename_i tm3 l k r3 fs3 heq
    cases heq
    obtain ⟨b, tmps2, dfs2, q0, q1, q2, q3⟩ := hc
    rcases q3 with ⟨q3, _⟩ | ⟨its2, q3, rfl⟩ | ⟨_, _, _, q3, _⟩ | ⟨_, _, _, q3, _⟩
    · cases q3
    · obtain ⟨y, ys, rfl, ⟨rl, cl, hrl, rfl⟩, hk2⟩ := q3
      rw [finish_atR_inRangeFunc] at hs
      exact go_next hgo (Ext.refl ρ) hs he ⟨hm, hg, ⟨b, _, _, q0, q1, q2, .inr (.inl ⟨_, ⟨_, _, rfl, ⟨rl, cl, hrl, rfl⟩, hk2⟩, rfl⟩)⟩, hf, hb⟩
    · cases q3
    · cases q3
  · cases he
/-- A round is over. -/
theorem enr_next (hgo : GoOk E go v m') {ρ : Rho} {M : Machine} {b : Nat} {j : Option Code} {r : Nat} {cc : Nat} {nn : FuncId} {nt : Nat} {fs m frs w}
    (he : enrGo go b j fs m (m.t.get b) = some (v, m')) (hr : ρ b = some (r, cc))
    (hs : ∀ (x : Value) (w' : World) (c : Frame) (cs' : List Frame), frs = c :: cs' → (Instr.endRound r j).run E.P w = .ok x w' → Steps E.P M (lone (c.finish x) (cs' ++ cs) w'))
    (hm : RM F w0 ρ m w) (hg : Glo E.T.g ρ) (hf : FsRel ρ fs frs) (hb : ∀ y ys, fs = y :: ys → bot y.r ys = f) : Res E F w0 ρ v m' f cs M := by
  unfold enrGo at he
  split at he
  · rename_i st pe fn nt2 t ps ac bd d hblk
    cases fs with
    | nil => cases he
    | cons y fs =>
      obtain ⟨c, cs', rfl, hc, hf'⟩ := hf
      obtain ⟨_, x, h1, tmps, rd, cd, rfl, h2, h3⟩ := hm.at hblk hr
      have hend := run_endRound (P := E.P) j h1
      have hst : (if j.isNone = true then LoopState.ready else LoopState.done) = (bif j.isNone then LoopState.ready else LoopState.done) := by cases j <;> rfl
      rw [hst] at hend
      have hm2 := hm.setO hblk hr (o' := .loop (bif j.isNone then .ready else .done) j fn nt2 t ps ac bd d) ⟨tmps, rd, cd, rfl, h2, h3⟩
      exact fin_next hgo he (hs _ _ c cs' rfl hend) hm2 hg (by rw [RelV]) hc hf' (hb y fs rfl)
  · cases he
/-- A range over a function is at its end, or its frame leaves. -/
theorem col_take {ρ : Rho} {b r cc : Nat} {m w} (hblk : m.t.get b = some (.oth (.dfr true))) (hr : ρ b = some (r, cc)) (hm : RM F w0 ρ m w) :
    (Instr.takeDeferred r).run E.P w = .ok [] (w.putObj r (.deferred none)) ∧ RM F w0 ρ (m.setO b (.dfr false)) (w.putObj r (.deferred none)) := by
  obtain ⟨_, x, h1, h2⟩ := hm.at hblk hr
  have h2 : x = .deferred (some []) := h2
  subst h2
  exact ⟨run_takeDeferred h1, hm.setO hblk hr rfl⟩
end

theorem opC_call {o : Op} {c : Call} (h : opC o = .call c) : o = .call c := by
  unfold opC at h
  split at h
  · split at h
    · cases h; rfl
    · unfold opCB at h
      split at h
      · split at h <;> cases h
      · cases h
    · cases h
  · cases h
  · cases h
  · cases h
theorem opC_defr {o : Op} {c : Call} (h : opC o = .defr c) : o = .defer c := by
  unfold opC at h
  split at h
  · split at h
    · cases h
    · unfold opCB at h
      split at h
      · split at h <;> cases h
      · cases h
    · cases h
  · cases h; rfl
  · cases h
  · cases h
theorem opC_pan {o : Op} {x : Operand} (h : opC o = .pan x) : o = .panic x := by
  unfold opC at h
  split at h
  · split at h
    · cases h
    · unfold opCB at h
      split at h
      · split at h <;> cases h
      · cases h
    · cases h
  · cases h
  · cases h; rfl
  · cases h
theorem opC_rec {o : Op} (h : opC o = .rcv) : ∃ c, o = .call c ∧ c.callee = .builtin .recover ∧ c.args.toList = [] := by
  unfold opC at h
  split at h
  · rename_i c
    split at h
    · cases h
    · rename_i b hb
      unfold opCB at h
      split at h
      · split at h
        · rename_i hl; exact ⟨c, rfl, hb, hl⟩
        · cases h
      · cases h
    · cases h
  · cases h
  · cases h
  · cases h
theorem recGo_cases {kd : KV} {fs fs' : List Fr} {u : V} (h : recGo kd fs = some (u, fs')) :
    (kd = .normal ∧ u = .nili ∧ fs' = fs) ∨ (kd = .deferred ∧ ∃ tm v r fs2, fs = ⟨tm, [.pn v], r⟩ :: fs2 ∧ u = v ∧ fs' = ⟨tm, [.pd v], r⟩ :: fs2) ∨ (kd = .deferred ∧ ∃ tm r fs2, fs = ⟨tm, [.rt], r⟩ :: fs2 ∧ u = .nili ∧ fs' = ⟨tm, [.rt], r⟩ :: fs2) := by
  unfold recGo at h
  split at h
  · cases h; exact .inl ⟨rfl, rfl, rfl⟩
  · cases h; exact .inr (.inl ⟨rfl, _, _, _, _, rfl, rfl, rfl⟩)
  · cases h; exact .inr (.inr ⟨rfl, _, _, _, rfl, rfl, rfl⟩)
  · cases h
theorem opC_nd {o : Op} {k : OpC} (h : opC o = k) (hk : ∀ c, k ≠ .defr c) : ∀ c, o ≠ .defer c := fun c e => by
  subst e; exact hk c h.symm
theorem par_ok {ρ : Rho} {nt : Nat} : ∀ {ps : List Tmp} {as : List V} {xs : List Value} {tm tm' : Tr V} {tmps : Array Value}, parV nt ps as tm = some tm' → RelL ρ as xs → TmRel ρ nt tm tmps →
    ps.length = xs.length ∧ TmRel ρ nt tm' ((ps.zip xs).foldl (fun t p => t.setIfInBounds p.1 p.2) tmps)
  | [], [], xs, tm, tm', tmps, h, ha, ht => by rw [RelL] at ha; subst ha; cases h; exact ⟨rfl, ht⟩
  | [], _ :: _, _, _, _, _, h, _, _ => by cases h
  | _ :: _, [], _, _, _, _, h, _, _ => by cases h
  | t :: ts, v :: vs, xs, tm, tm', tmps, h, ha, ht => by
    rw [RelL] at ha
    obtain ⟨x, ys, rfl, h1, h2⟩ := ha
    unfold parV at h
    split at h
    · rename_i hb
      have hp : putTm nt tm (some t) v = some (tm.set t v) := by unfold putTm; simp only [hb]
      obtain ⟨k1, _⟩ := ht.put (dfs := []) h1 hp
      obtain ⟨k2, k3⟩ := par_ok h h2 k1
      exact ⟨by simp [k2], k3⟩
    · cases h

theorem op_ok {E : Env} (hE : EnvOk E) {go : Go} {v : V} {m' : Mem} (hgo : GoOk E go v m') {F : Fx} {w0 : World} {f : FuncId} {cs : List Frame} {ρ : Rho} {tm : Tr V} {r : RF} {b : Frame} {tmps : Array Value} {dfs : List Deferred}
    {kk : Nat} {o : Oper} {l : List Oper} {all : Array Oper} {k : List VI} {its : List Item} {fs m frs w} (he : wantGo E go o l all k tm r fs m (wantedV all tm o.guard) = some (v, m'))
    (hB : BsRel ρ r.fn r.kind b) (hm : RM F w0 ρ m w) (hg : Glo E.T.g ρ) (ht : TmRel ρ r.nt tm tmps) (hd : DfRel ρ r.df dfs) (hl : o :: l = all.toList.drop kk) (hk : ItsRel ρ k its) (hf : FsRel ρ fs frs) (hb : bot r fs = f) :
    Res E F w0 ρ v m' f cs (lone (b.atR ⟨tmps, dfs⟩ (.inRegion all (List.range' kk (o :: l).length) :: its)) (frs ++ cs) w) := by
  obtain ⟨ho, hl1, hr⟩ := range'_cons hl
  rw [hr]
  have hw := wanted_rel ht all o
  have hev := evO_rel (dfs := dfs) hg ht
  rw [← hw] at he
  cases hwant : Region.wanted o (yielded all tmps) with
  | false =>
    rw [hwant] at he
    exact put_next hgo hB (Ext.refl ρ) (.one (st_unwanted ho hwant)) he hm hg ht hd undef_rel hl1 hk hf hb
  | true =>
    rw [hwant] at he
    have he : opGo (opC o.op) E go o l all k tm r fs m = some (v, m') := he
    have hev' : evO E.T.g tm = fun x => evO E.T.g tm x := rfl
    cases hop : opC o.op with
    | plain =>
      have hnd := opC_nd hop (fun c h => by cases h)
      rw [hop] at he
      have he : valGo go o.dst l all k tm r fs (exOp o.op E.P (evO E.T.g tm) m) = some (v, m') := he
      cases hex : exOp o.op E.P (evO E.T.g tm) m with
      | none => rw [hex] at he; cases he
      | some p =>
        obtain ⟨u, m1⟩ := p
        rw [hex] at he
        obtain ⟨ρ1, x, w1, h1, h2, h3, h4⟩ := exOp_ok hev hm hex
        rcases h2 with h2 | ⟨h2, rfl⟩
        · exact put_next hgo (hB.mono h1) h1 (.one (st_value ho hwant hnd h2)) he h4 (hg.mono h1) (ht.mono h1) (hd.mono h1) h3 hl1 (hk.mono h1) (hf.mono h1) hb
        · exact put_next hgo (hB.mono h1) h1 (.one (st_skip ho hwant hnd h2)) he h4 (hg.mono h1) (ht.mono h1) (hd.mono h1) h3 hl1 (hk.mono h1) (hf.mono h1) hb
    | pan x =>
      have hnd := opC_nd hop (fun c h => by cases h)
      rw [hop] at he
      have hoc := opC_pan hop
      have he : panGo go r fs m tm (evO E.T.g tm x) = some (v, m') := he
      unfold panGo at he
      split at he
      · rename_i t u hx
        have hx := hev _ _ hx
        have hx0 := hx
        rw [RelV] at hx
        obtain ⟨y, hy, hy2⟩ := hx
        have hrun : (execOp (⟨tmps, dfs⟩ : Act).eval o).run E.P w = .halt (.panic (.iface t y)) w := by
          unfold execOp
          simp only [hoc, hy]
          rfl
        exact go_next hgo (Ext.refl ρ) (.one (st_panic ho hwant hnd hrun)) he ⟨hm, hg, ⟨b, _, _, hB, ht, hd, .inr (.inr (.inl ⟨_, .iface t y, _, rfl, by rw [← hy]; exact hx0, rfl⟩))⟩, hf, hb⟩
      · cases he
    | rcv =>
      have hnd := opC_nd hop (fun c h => by cases h)
      rw [hop] at he
      obtain ⟨c, hoc, hcb, hca⟩ := opC_rec hop
      have hrun : (execOp (⟨tmps, dfs⟩ : Act).eval o).run E.P w = .ok .recover w := by
        unfold execOp
        obtain ⟨cl, args, ats⟩ := c
        cases hcb
        have hca : args = #[] := by
          have : args.toList = [] := hca
          exact Array.toList_eq_nil_iff.1 this
        subst hca
        simp only [hoc, resolve]
        rfl
      have he : rcvGo go o l all k tm r m (recGo r.kind fs) = some (v, m') := he
      cases hrec : recGo r.kind fs with
      | none => rw [hrec] at he; cases he
      | some p =>
        obtain ⟨u, fs'⟩ := p
        rw [hrec] at he
        have he : putGo go l all k r fs' m (putTm r.nt tm o.dst u) = some (v, m') := he
        have hb0 : ∀ {k}, r.kind = k → isRnd k = false → b.roundOf = none := fun e1 e2 => hB.none (by rw [e1]; exact e2)
        rcases recGo_cases hrec with ⟨hkd, e1, e2⟩ | ⟨hkd, tm2, v2, r2, fs2, e0, e1, e2⟩ | ⟨hkd, tm2, r2, fs2, e0, e1, e2⟩
        · rw [e1, e2] at he
          refine put_next hgo (x := .nilIface) hB (Ext.refl ρ) (.one (st_recover (hb0 hkd rfl) ho hwant hnd hrun ?_)) he hm hg ht hd (by rw [RelV]) hl1 hk hf hb
          have e : b.kind = .normal := by rw [hB.kind, hkd]; rfl
          have : tryRecover (b.atR ⟨tmps, dfs⟩ (.inRegion all (kk :: List.range' (kk + 1) l.length) :: its)) (frs ++ cs) = none := by
            unfold tryRecover; simp [Frame.atR, e]
          rw [this]
        · rw [e1, e2] at he
          rw [e0] at hf hb
          obtain ⟨c2, frs2, rfl, ⟨b2, tmps2, dfs2, q0, q1, q2, q3⟩, q4⟩ := hf
          rcases q3 with ⟨q3, _⟩ | ⟨its2, ⟨_, _, _, q3, _⟩, _⟩ | ⟨v3, y3, its3, q3, q5, rfl⟩ | ⟨_, _, _, q3, _⟩
          · cases q3
          · exact q3.elim
          · cases q3
            have hb' : bot r (⟨tm2, [.pd v2], r2⟩ :: fs2) = f := hb
            refine put_next (frs := { b2.atR ⟨tmps2, dfs2⟩ its3 with mode := .panicking [{ v := y3, recovered := true }] } :: frs2) hgo (x := y3) hB (Ext.refl ρ) (.one (st_recover (hb0 hkd rfl) ho hwant hnd hrun ?_)) he hm hg ht hd q5 hl1 hk ⟨_, _, rfl, ⟨b2, tmps2, dfs2, q0, q1, q2, .inr (.inr (.inr ⟨v2, y3, its3, rfl, q5, rfl⟩))⟩, q4⟩ hb'
            have e : b.kind = .deferred := by rw [hB.kind, hkd]; rfl
            rw [tryRecover_deferred (by show b.kind = _; exact e)]
            rfl
          · cases q3
        · rw [e1, e2] at he
          rw [e0] at hf hb
          obtain ⟨c2, frs2, rfl, ⟨b2, tmps2, dfs2, q0, q1, q2, q3⟩, q4⟩ := hf
          rcases q3 with ⟨_, its2, q3⟩ | ⟨its2, ⟨_, _, _, q3, _⟩, _⟩ | ⟨v3, y3, its3, q3, q5, rfl⟩ | ⟨_, _, _, q3, _⟩
          · have e : b.kind = .deferred := by rw [hB.kind, hkd]; rfl
            have hmode : c2.mode = .run ∨ c2.mode = .returning := by
              cases hr2 : isRnd r2.kind with
              | true => rw [hr2] at q3; have q3 : c2 = _ := q3; subst q3; exact .inl rfl
              | false => rw [hr2] at q3; have q3 : c2 = _ := q3; subst q3; exact .inr rfl
            refine put_next (frs := c2 :: frs2) hgo (x := .nilIface) hB (Ext.refl ρ) (.one (st_recover (hb0 hkd rfl) ho hwant hnd hrun ?_)) he hm hg ht hd (by rw [RelV]) hl1 hk ⟨_, _, rfl, ⟨b2, tmps2, dfs2, q0, q1, q2, .inl ⟨rfl, its2, q3⟩⟩, q4⟩ hb
            rw [tryRecover_deferred (by show b.kind = _; exact e)]
            rcases hmode with hmode | hmode <;> simp [recoverD, hmode]
          · exact q3.elim
          · cases q3
          · cases q3
    | call c =>
      have hnd := opC_nd hop (fun c h => by cases h)
      rw [hop] at he
      have hoc := opC_call hop
      have he : callGo E go c o l all k tm r fs m (calleeV c.callee c.args (evO E.T.g tm)) = some (v, m') := he
      cases hc : calleeV c.callee c.args (evO E.T.g tm) with
      | none =>
        rw [hc] at he
        have he : ycGo go o l all k tm r fs m (yldV c.callee (evO E.T.g tm)) (mapO (evO E.T.g tm) c.args.toList) = some (v, m') := he
        unfold ycGo at he
        split at he
        · rename_i yb as hy has
          unfold yldGo at he
          split at he
          · rename_i st pe fn nt t ps ac bd d hblk
            unfold rndGo at he
            split at he
            · cases he
            · rename_i tm2 hpar
              have hg3 := he
              obtain ⟨cl, args, ats⟩ := c
              cases cl with
              | value fo =>
                have hy : yldF (evO E.T.g tm fo) = some yb := hy
                unfold yldF at hy
                split at hy
                · rename_i yb' hfo
                  cases hy
                  have hv := hev _ _ hfo
                  rw [RelV] at hv
                  obtain ⟨rl, cl, hrl, hfv⟩ := hv
                  obtain ⟨_, x, h1, tmps1, rd, cd, rfl, h2, h3⟩ := hm.at hblk hrl
                  have ha := mapO_rel2 hev _ _ has
                  obtain ⟨hlen, hpt⟩ := par_ok hpar ha h2
                  have hyr := run_yield (P := E.P) (args := (args.toList.map (⟨tmps, dfs⟩ : Act).eval).toArray) h1 (by simpa using hlen.symm)
                  have hrun : (execOp (⟨tmps, dfs⟩ : Act).eval o).run E.P w = (Instr.yield rl (args.toList.map (⟨tmps, dfs⟩ : Act).eval).toArray).run E.P w := by
                    unfold execOp
                    simp only [hoc, Sem.run_bind, resolve, hfv, Deferred.ofValue, Sem.run_pure, Result.andThen_ok, invoke]
                    congr 2
                    apply Array.ext'; simp
                  have s1 := st_round (b := b) (k := its) (cs := frs ++ cs) (rest := List.range' (kk + 1) l.length) ho hwant hnd (hrun.trans hyr)
                  rw [round_at] at s1
                  have e2 : (Array.foldl (fun tmps x => match x with | (t, a) => tmps.setIfInBounds t a) tmps1 (ps.zip (args.toList.map (⟨tmps, dfs⟩ : Act).eval).toArray)) = ((ps.toList.zip (args.toList.map (⟨tmps, dfs⟩ : Act).eval)).foldl (fun t p => t.setIfInBounds p.1 p.2) tmps1) := by
                    rw [← Array.foldl_toList]; simp
                  rw [e2] at s1
                  refine go_next (frs := b.atR ⟨tmps, dfs⟩ (.inRegion all (kk :: List.range' (kk + 1) l.length) :: its) :: frs) hgo (Ext.refl ρ) (.one s1) hg3 ⟨hm, hg, ⟨{ bs fn .normal with roundOf := some rl }, _, [], ⟨rfl, rfl, rl, cl, hrl, rfl⟩, hpt, rfl, .inr (.inl ⟨_, ⟨_, _, rfl, rfl, _, _, rfl, rfl, _, _, rfl, rfl, rfl⟩, rfl⟩)⟩,
                    ⟨_, _, rfl, ⟨b, _, _, hB, ht, hd, .inr (.inl ⟨_, ⟨_, _, rfl, ⟨kk, by rw [hr], hl⟩, hk⟩, rfl⟩)⟩, hf⟩, hb⟩
                · cases hy
              | _ => cases hy
          · cases he
        · cases he
      | some p =>
        obtain ⟨g, as, ca⟩ := p
        rw [hc] at he
        obtain ⟨xs, ys, h1, h2, h3⟩ := callee_rel hev hc
        have hrun : ∀ w, (execOp (⟨tmps, dfs⟩ : Act).eval o).run E.P w = (callFunc g (xs ++ ys).toArray).run E.P w := fun w => by
          unfold execOp
          simp only [hoc, Sem.run_bind, h3, Result.andThen_ok, invoke]
          congr 2
          apply Array.ext'; simp
        have hap := h1.append h2
        have he : extGo E go o l all k tm r fs m g (as ++ ca) (E.T.ext g) = some (v, m') := he
        cases hext : E.T.ext g with
        | some e =>
          rw [hext] at he
          have he : valGo go o.dst l all k tm r fs (e (as ++ ca) m) = some (v, m') := he
          cases hee : e (as ++ ca) m with
          | none => rw [hee] at he; cases he
          | some p =>
            obtain ⟨u, m1⟩ := p
            rw [hee] at he
            obtain ⟨ρ1, x, w1, k1, k2, k3, k4⟩ := hE.ext g e _ m u m1 hext hee F w0 ρ w _ hm hap
            exact put_next hgo (hB.mono k1) k1 (.one (st_value ho hwant hnd ((hrun w).trans k2))) he k4 (hg.mono k1) (ht.mono k1) (hd.mono k1) k3 hl1 (hk.mono k1) (hf.mono k1) hb
        | none =>
          rw [hext] at he
          have he : ownGo E go o l all k tm r fs m g (as ++ ca) (E.T.sum g) = some (v, m') := he
          cases hsum : E.T.sum g with
          | some e =>
            rw [hsum] at he
            have he : valGo go o.dst l all k tm r fs (e (as ++ ca) m) = some (v, m') := he
            cases hee : e (as ++ ca) m with
            | none => rw [hee] at he; cases he
            | some p =>
              obtain ⟨u, m1⟩ := p
              rw [hee] at he
              obtain ⟨⟨fn, c0, hf1, hf2⟩, hcall⟩ := hE.sum g e _ m u m1 hsum hee
              obtain ⟨ed, w1, fr1, ⟨ρ1, x, rfl, k1, k3, k4⟩, hcomes, hfn, hleave⟩ := hcall F w0 ρ w _ hm hg hap (b.atR ⟨tmps, dfs⟩ (.inRegion all (kk :: List.range' (kk + 1) l.length) :: its) :: (frs ++ cs))
              have s1 := st_enter (P := E.P) (b := b) (a := ⟨tmps, dfs⟩) (k := its) (cs := frs ++ cs) (w := w) (rest := List.range' (kk + 1) l.length) ho hwant hnd ((hrun w).trans (run_callFunc_body hf1 hf2 (hE.ng g fn hf1)))
              have s2 := step_leave_returned (c := b.atR ⟨tmps, dfs⟩ (.inRegion all (kk :: List.range' (kk + 1) l.length) :: its)) (cs := frs ++ cs) hleave
              rw [fin_at ho] at s2
              have hcomes : Steps E.P _ _ := hcomes
              exact put_next hgo (hB.mono k1) k1 (.head s1 (hcomes.trans (.one s2))) he k4 (hg.mono k1) (ht.mono k1) (hd.mono k1) k3 hl1 (hk.mono k1) (hf.mono k1) hb
          | none =>
            rw [hsum] at he
            have he : entGo go .normal g (as ++ ca) (⟨tm, .ops (o :: l) all :: k, r⟩ :: fs) m (enterV E.P g (as ++ ca)) = some (v, m') := he
            refine ent_next (frs := b.atR ⟨tmps, dfs⟩ (.inRegion all (kk :: List.range' (kk + 1) l.length) :: its) :: frs) hE hgo rfl he (fun fn c0 hf1 hf2 => ?_) hm hg hap ⟨_, _, rfl, ⟨b, _, _, hB, ht, hd, .inr (.inl ⟨_, ⟨_, _, rfl, ⟨kk, by rw [hr], hl⟩, hk⟩, rfl⟩)⟩, hf⟩ (fun _ => hb)
            exact .one (st_enter ho hwant hnd ((hrun w).trans (run_callFunc_body hf1 hf2 (hE.ng g fn hf1))))
    | defr c =>
      rw [hop] at he
      have hoc := opC_defr hop
      have he : defGo go o l all k tm r fs m (calleeV c.callee c.args (evO E.T.g tm)) = some (v, m') := he
      cases hc : calleeV c.callee c.args (evO E.T.g tm) with
      | none => rw [hc] at he; cases he
      | some p =>
        obtain ⟨g, as, ca⟩ := p
        rw [hc] at he
        obtain ⟨xs, ys, h1, h2, h3⟩ := callee_rel hev hc
        have hrun : (execOp (⟨tmps, dfs⟩ : Act).eval o).run E.P w = .ok (.defer { target := .fn (.func g) ys.toArray, args := xs.toArray }) w := by
          unfold execOp
          simp only [hoc, Sem.run_bind, h3, Result.andThen_ok, Sem.run_pure]
        have key : isRnd r.kind = false → putGo go l all k ⟨r.fn, r.nt, .call g ca as :: r.df, r.kind⟩ fs m (putTm r.nt tm o.dst undefV) = some (v, m') → Res E F w0 ρ v m' f cs (lone (b.atR ⟨tmps, dfs⟩ (.inRegion all (kk :: List.range' (kk + 1) l.length) :: its)) (frs ++ cs) w) := fun hnr he => by
          have s1 := st_defer (P := E.P) (b := b) (a := ⟨tmps, dfs⟩) (k := its) (cs := frs ++ cs) (rest := List.range' (kk + 1) l.length) (hB.none hnr) ho hwant hrun
          have hb' : bot ⟨r.fn, r.nt, .call g ca as :: r.df, r.kind⟩ fs = f := by cases fs <;> exact hb
          exact put_next (r := ⟨r.fn, r.nt, .call g ca as :: r.df, r.kind⟩) hgo hB (Ext.refl ρ) (.one s1) he hm hg ht ⟨ys, xs, dfs, rfl, h2, h1, hd⟩ undef_rel hl1 hk hf hb'
        have he : (bif isRnd r.kind then none else putGo go l all k ⟨r.fn, r.nt, .call g ca as :: r.df, r.kind⟩ fs m (putTm r.nt tm o.dst undefV)) = some (v, m') := he
        cases hnr : isRnd r.kind with
        | true => rw [hnr] at he; cases he
        | false => rw [hnr] at he; exact key hnr he

theorem code_ok {E : Env} (hE : EnvOk E) {go : Go} {v : V} {m' : Mem} (hgo : GoOk E go v m') {F : Fx} {w0 : World} {f : FuncId} {cs : List Frame} {ρ : Rho} {tm : Tr V} {r : RF} {b : Frame} {tmps : Array Value} {dfs : List Deferred}
    {c : Code} {k : List VI} {its : List Item} {fs m frs w} (he : codeGo c E go k tm r fs m = some (v, m'))
    (hB : BsRel ρ r.fn r.kind b) (hm : RM F w0 ρ m w) (hg : Glo E.T.g ρ) (ht : TmRel ρ r.nt tm tmps) (hd : DfRel ρ r.df dfs) (hk : ItsRel ρ k its) (hf : FsRel ρ fs frs) (hb : bot r fs = f) :
    Res E F w0 ρ v m' f cs (lone (b.atR ⟨tmps, dfs⟩ (.code c :: its)) (frs ++ cs) w) := by
  have nx : ∀ {k1 its1}, ItsRel ρ k1 its1 → go tm k1 r fs m = some (v, m') → Steps E.P (lone (b.atR ⟨tmps, dfs⟩ (.code c :: its)) (frs ++ cs) w) (lone (b.atR ⟨tmps, dfs⟩ its1) (frs ++ cs) w) →
      Res E F w0 ρ v m' f cs (lone (b.atR ⟨tmps, dfs⟩ (.code c :: its)) (frs ++ cs) w) := fun h1 h2 h3 =>
    go_next hgo (Ext.refl ρ) h3 h2 ⟨hm, hg, ⟨b, _, _, hB, ht, hd, .inr (.inl ⟨_, h1, rfl⟩)⟩, hf, hb⟩
  cases c with
  | skip => exact nx hk he (.one stepR_skip)
  | label l => exact nx hk he (.one stepR_label)
  | ret =>
    cases hr : isRnd r.kind with
    | true => exact go_next hgo (Ext.refl ρ) (Steps.refl _ _) he ⟨hm, hg, ⟨b, _, _, hB, ht, hd, .inl ⟨rfl, its, by rw [hr]; rfl⟩⟩, hf, hb⟩
    | false => exact go_next hgo (Ext.refl ρ) (.one (stepR_ret (hB.none hr))) he ⟨hm, hg, ⟨b, _, _, hB, ht, hd, .inl ⟨rfl, _, by rw [hr]; rfl⟩⟩, hf, hb⟩
  | seq a b => exact nx (k1 := .code a :: .code b :: k) (its1 := .code a :: .code b :: its) ⟨_, _, rfl, rfl, _, _, rfl, rfl, hk⟩ he (.one stepR_seq)
  | block id c => exact nx (k1 := .code c :: .blk id :: k) (its1 := .code c :: .inBlock id :: its) ⟨_, _, rfl, rfl, _, _, rfl, rfl, hk⟩ he (.one stepR_block)
  | loop c => exact nx (k1 := .code c :: .lp c :: k) (its1 := .code c :: .inLoop c :: its) ⟨_, _, rfl, rfl, _, _, rfl, rfl, hk⟩ he (.one stepR_loop)
  | scope c => exact nx (k1 := .code c :: .sc c :: k) (its1 := .code c :: .inScope c :: its) ⟨_, _, rfl, rfl, _, _, rfl, rfl, hk⟩ he (.one (step_lone_go (by simp [stepG, stepG.exec, Frame.atR])))
  | cond x a c =>
    have he : condGo go a c k tm r fs m (evO E.T.g tm x) = some (v, m') := he
    unfold condGo at he
    split at he
    · rename_i hx
      have := evO_rel (dfs := dfs) hg ht _ _ hx
      rw [RelV] at this
      exact nx (k1 := .code a :: k) (its1 := .code a :: its) ⟨_, _, rfl, rfl, hk⟩ he (.one (by have := stepR_cond (P := E.P) (b := b) (k := its) (cs := frs ++ cs) (w := w) (x := a) (y := c) this; simpa using this))
    · rename_i hx
      have := evO_rel (dfs := dfs) hg ht _ _ hx
      rw [RelV] at this
      exact nx (k1 := .code c :: k) (its1 := .code c :: its) ⟨_, _, rfl, rfl, hk⟩ he (.one (by have := stepR_cond (P := E.P) (b := b) (k := its) (cs := frs ++ cs) (w := w) (x := a) (y := c) this; simpa using this))
    · cases he
  | exit id =>
    have he : exitGo go id tm r fs m (exitV id k) = some (v, m') := he
    unfold exitGo at he
    split at he
    · rename_i hex
      have h1 := (exit_rel hk).2 hex
      unfold endGo at he
      split at he
      · rename_i bl hkd
        obtain ⟨rl, cl, hrl, hro⟩ : ∃ rl cl, ρ bl = some (rl, cl) ∧ b.roundOf = some rl := by have := hB.ro; rw [hkd] at this; exact this
        refine enr_next (nn := 0) (nt := 0) hgo he hrl (fun x w' c cs' e hrun => ?_) hm hg hf (fun y ys e => by rw [← hb, e]; rfl)
        rw [e]
        exact .one (stepR_round_exit hro (by rw [hB.kind, hkd]; rfl) h1 hrun)
      · cases he
    · rename_i k1 hk1
      obtain ⟨its1, h1, h2⟩ := (exit_rel hk).1 _ hk1
      exact nx h2 he (.one (stepR_exit h1))
  | region id ops d =>
    cases d with
    | false =>
      have he : go tm (.ops ops.toList ops :: k) r fs m = some (v, m') := he
      refine nx (k1 := .ops ops.toList ops :: k) (its1 := .inRegion ops (List.range ops.size) :: its) ⟨_, _, rfl, ⟨0, by rw [List.range_eq_range']; simp, by simp⟩, hk⟩ he (.one stepR_region)
    | true =>
      have he : drawGo go k r fs (E.draw ops r.nt tm m) = some (v, m') := he
      unfold drawGo at he
      split at he
      · cases he
      · rename_i tm1 m1 hdr
        obtain ⟨ρ1, w1, tmps1, h1, h2, h3, h4⟩ := hE.draw ops r.nt tm m tm1 m1 hdr F w0 ρ w tmps dfs id b its (frs ++ cs) hm hg ht
        exact go_next hgo h1 h4 he ⟨h3, hg.mono h1, ⟨b, _, _, hB.mono h1, h2, hd.mono h1, .inr (.inl ⟨_, hk.mono h1, rfl⟩)⟩, hf.mono h1, hb⟩
  | rangeFunc fo ps ac bd =>
    have he : rfnGo E go ps ac bd k tm r fs m (evO E.T.g tm fo) r.kind = some (v, m') := he
    unfold rfnGo at he
    split at he
    · rename_i g ca hfo hkd
      have hfv := evO_rel (dfs := dfs) hg ht _ _ hfo
      rw [RelV] at hfv
      obtain ⟨xs, ys, hfv, hxs, hca⟩ := hfv
      rw [RelL] at hxs
      subst hxs
      have hro : b.roundOf = none := hB.none (by rw [hkd]; rfl)
      obtain ⟨ρ1, x1, q1, hm1⟩ := hm.newO (o := .dfr true) (x := .deferred (some [])) rfl
      obtain ⟨ρ2, x2, q2, hm2⟩ := hm1.newO (o := .loop .ready none r.fn r.nt tm ps ac bd m.nx) (x := .loop { state := .ready, pending := none, fn := r.fn, tmps := tmps, params := ps, assign := ac, body := bd, defers := w.heap.size }) ⟨tmps, _, _, rfl, ht.mono x1, q1⟩
      have x12 := x1.trans x2
      have hres : ∀ w1, (resolve (⟨tmps, dfs⟩ : Act).eval (rangeCall fo (w.heap.size + 1)) 0).run E.P w1 = .ok { target := .fn (.func g) ys.toArray, args := #[.func (.yield (w.heap.size + 1)) #[] #[]] } w1 := fun w1 => by
        simp only [resolve, rangeCall, hfv, Deferred.ofValue, Sem.run_pure]
        simp [Act.eval]
      rw [World.size_alloc] at q2
      refine ent_next (ρ := ρ2) (kind := .normal) (frs := b.atR ⟨tmps, { target := .collected w.heap.size, args := #[] } :: dfs⟩ (.inRangeFunc (w.heap.size + 1) :: its) :: frs) (xs := .func (.yield (w.heap.size + 1)) #[] #[] :: ys) hE hgo rfl he (fun fn c0 hf1 hf2 => ?_) hm2 (hg.mono x12) (.cons (by rw [RelV]; exact ⟨_, _, q2, rfl⟩) (RelL.mono x12 _ _ hca))
        ⟨_, _, rfl, ⟨b, _, _, hB.mono x12, ht.mono x12, ⟨_, _, _, x2.1 _ _ q1, rfl, hd.mono x12⟩, .inr (.inl ⟨_, ⟨_, _, rfl, ⟨_, _, q2, rfl⟩, hk.mono x12⟩, rfl⟩)⟩, hf.mono x12⟩ (fun _ => by
          show bot ⟨r.fn, r.nt, .coll m.nx :: r.df, r.kind⟩ fs = f
          cases fs <;> exact hb) |>.step x12 (Steps.refl _ _)
      have he0 := run_enterLoop_outer (P := E.P) (w := w) r.fn tmps ps ac bd
      have hfn : b.fn = r.fn := hB.fn
      rw [← hro, ← hfn] at he0
      have hinv : (invoke (.fn (.func g) ys.toArray) #[.func (.yield (w.heap.size + 1)) #[] #[]]).run E.P ((w.alloc (.deferred (some []))).alloc (.loop { state := .ready, pending := none, fn := r.fn, tmps := tmps, params := ps, assign := ac, body := bd, defers := w.heap.size })) = .ok (.enter g (#[.func (.yield (w.heap.size + 1)) #[] #[]] ++ ys.toArray)) ((w.alloc (.deferred (some []))).alloc (.loop { state := .ready, pending := none, fn := r.fn, tmps := tmps, params := ps, assign := ac, body := bd, defers := w.heap.size })) := by
        simp only [invoke]
        exact run_callFunc_body hf1 hf2 (hE.ng g fn hf1)
      rw [hfn] at he0
      have s1 := stepR_rangeFunc (P := E.P) (b := b) (a := ⟨tmps, dfs⟩) (k := its) (cs := frs ++ cs) (g := fo) (by rw [hfn]; exact he0) (hres _) hinv
      have ea : (#[Value.func (.yield (w.heap.size + 1)) #[] #[]] ++ ys.toArray) = (Value.func (.yield (w.heap.size + 1)) #[] #[] :: ys).toArray := by simp
      rw [ea] at s1
      exact .one s1
    · cases he
  | _ => cases he

theorem ret_ok {E : Env} (hE : EnvOk E) {go : Go} {v : V} {m' : Mem} (hgo : GoOk E go v m') {F : Fx} {w0 : World} {f : FuncId} {cs : List Frame} {ρ : Rho} {tm : Tr V} {r : RF} {b : Frame} {tmps : Array Value} {dfs : List Deferred}
    {its : List Item} {fs m frs w} (he : retGo E go tm r fs m r.df = some (v, m')) (hnr : isRnd r.kind = false)
    (hB : BsRel ρ r.fn r.kind b) (hm : RM F w0 ρ m w) (hg : Glo E.T.g ρ) (ht : TmRel ρ r.nt tm tmps) (hd : DfRel ρ r.df dfs) (hf : FsRel ρ fs frs) (hb : bot r fs = f) :
    Res E F w0 ρ v m' f cs (lone { b.atR ⟨tmps, dfs⟩ its with mode := .returning } (frs ++ cs) w) := by
  cases hdf : r.df with
  | cons d ds =>
    have hbt : bot ⟨r.fn, r.nt, ds, r.kind⟩ fs = f := by cases fs <;> exact hb
    rw [hdf] at he hd
    cases d with
    | call df dca das =>
      obtain ⟨ca, as, ys, rfl, h1, h2, h3⟩ := hd
      have he : (bif isRnd r.kind then none else entGo go .deferred df (das ++ dca) (⟨tm, [.rt], ⟨r.fn, r.nt, ds, r.kind⟩⟩ :: fs) m (enterV E.P df (das ++ dca))) = some (v, m') := he
      rw [hnr] at he
      refine ent_next (frs := { b.atR ⟨tmps, ys⟩ its with mode := .returning } :: frs) hE hgo rfl he (fun fn c0 hf1 hf2 => ?_) hm hg (h2.append h1) ⟨_, _, rfl, ⟨b, tmps, ys, hB, ht, h3, .inl ⟨rfl, its, by rw [hnr]; rfl⟩⟩, hf⟩ (fun _ => hbt)
      refine .one ?_
      have := step_defer (P := E.P) (fr := { b.atR ⟨tmps, { target := .fn (.func df) ca.toArray, args := as.toArray } :: ys⟩ its with mode := .returning }) (cs := frs ++ cs) (w := w) (fv := .func df) (cap := ca.toArray) (f := df) (args := (as ++ ca).toArray)
        (by simp) rfl rfl (by
          simp only [invoke]
          rw [show as.toArray ++ ca.toArray = (as ++ ca).toArray by simp]
          exact run_callFunc_body hf1 hf2 (hE.ng _ fn hf1))
      exact this
    | coll bl =>
      obtain ⟨rl, cl, ys, hrl, rfl, h3⟩ := hd
      have he : (bif isRnd r.kind then none else colGo go bl .rt tm ⟨r.fn, r.nt, ds, r.kind⟩ fs m (m.t.get bl)) = some (v, m') := he
      rw [hnr] at he
      have he : colGo go bl .rt tm ⟨r.fn, r.nt, ds, r.kind⟩ fs m (m.t.get bl) = some (v, m') := he
      unfold colGo at he
      split at he
      · rename_i hblk
        obtain ⟨hrun, hm2⟩ := col_take (E := E) hblk hrl hm
        have s1 := step_collected (P := E.P) (fr := { b.atR ⟨tmps, { target := .collected rl, args := #[] } :: ys⟩ its with mode := .returning }) (cs := frs ++ cs) (by simp) rfl rfl hrun
        exact go_next hgo (Ext.refl ρ) (.one s1) he ⟨hm2, hg, ⟨b, tmps, ys, hB, ht, h3, .inl ⟨rfl, its, by rw [hnr]; rfl⟩⟩, hf, hbt⟩
      · cases he
  | nil =>
    rw [hdf] at he hd
    have hd : dfs = [] := hd
    subst hd
    have he : outGo E go tm r fs m r.kind = some (v, m') := he
    have he : resGo go r fs m (resOf E.P r.fn tm m) = some (v, m') := by
      unfold outGo at he
      split at he
      · rename_i hkd; rw [hkd] at hnr; cases hnr
      · exact he
    unfold resGo at he
    split at he
    · cases he
    · rename_i u hu
      obtain ⟨fn, x, hf1, hx1, hx2⟩ := resOf_rel (P := E.P) hm ht hu
      have hf1 : E.P.funcs[b.fn]? = some fn := by rw [hB.fn]; exact hf1
      cases hkind : r.kind with
      | normal =>
        rw [hkind] at he
        have he : finGo go u m fs = some (v, m') := he
        have hleave : Frame.leaving E.P { b.atR ⟨tmps, []⟩ its with mode := .returning } w (.returned x) := ⟨rfl, rfl, by show b.kind = _; rw [hB.kind, hkind]; rfl, fn, hf1, hx1⟩
        cases fs with
        | nil =>
          have he : some (u, m) = some (v, m') := he
          cases he
          have hfr : frs = [] := hf
          subst hfr
          exact ⟨ρ, x, w, _, Ext.refl ρ, hx2, hm, Steps.refl _ _, hleave, hB.fn.trans hb⟩
        | cons y fs1 =>
          obtain ⟨c, frs1, rfl, q3, q4⟩ := hf
          exact fin_next hgo he (.one (step_leave_returned (c := c) (cs := frs1 ++ cs) hleave)) hm hg hx2 q3 q4 hb
      | deferred =>
        rw [hkind] at he
        have he : backGo go m fs = some (v, m') := he
        have hgoing : Frame.going E.P { b.atR ⟨tmps, []⟩ its with mode := .returning } w (.returned x) := ⟨rfl, rfl, fn, hf1, hx1⟩
        have hkd : b.kind = .deferred := by rw [hB.kind, hkind]; rfl
        cases fs with
        | nil => cases he
        | cons y fs1 =>
          obtain ⟨tm2, todo2, r2⟩ := y
          obtain ⟨c, frs1, rfl, ⟨b2, tmps2, dfs2, q0, q1, q2, q3⟩, q4⟩ := hf
          have s := step_going_returned (c := c) (cs := frs1 ++ cs) (by show b.kind = _; exact hkd) hgoing
          unfold backGo at he
          split at he
          · rename_i heq
            cases heq
            rcases q3 with ⟨_, its2, q3⟩ | ⟨its2, ⟨_, _, _, q3, _⟩, _⟩ | ⟨_, _, _, q3, _⟩ | ⟨_, _, _, q3, _⟩
            · cases hr2 : isRnd r2.kind with
              | true =>
                rw [hr2] at q3; have q3 : c = _ := q3; subst q3
                exact go_next hgo (Ext.refl ρ) (.one s) he ⟨hm, hg, ⟨b2, _, _, q0, q1, q2, .inl ⟨rfl, its2, by rw [hr2]; rfl⟩⟩, q4, hb⟩
              | false =>
                rw [hr2] at q3; have q3 : c = _ := q3; subst q3
                exact go_next hgo (Ext.refl ρ) (.one s) he ⟨hm, hg, ⟨b2, _, _, q0, q1, q2, .inl ⟨rfl, its2, by rw [hr2]; rfl⟩⟩, q4, hb⟩
            · exact q3.elim
            · cases q3
            · cases q3
          · rename_i heq
            cases heq
            rcases q3 with ⟨q3, _⟩ | ⟨its2, ⟨_, _, _, q3, _⟩, _⟩ | ⟨v3, y3, its3, q3, q5, rfl⟩ | ⟨_, _, _, q3, _⟩
            · cases q3
            · exact q3.elim
            · cases q3
              exact go_next hgo (Ext.refl ρ) (.one s) he ⟨hm, hg, ⟨b2, _, _, q0, q1, q2, .inr (.inr (.inl ⟨_, y3, its3, rfl, q5, rfl⟩))⟩, q4, hb⟩
            · cases q3
          · rename_i tm3 v3' r3 fs3 heq
            cases heq
            rcases q3 with ⟨q3, _⟩ | ⟨its2, ⟨_, _, _, q3, _⟩, _⟩ | ⟨_, _, _, q3, _⟩ | ⟨v3, y3, its3, q3, q5, rfl⟩
            · cases q3
            · exact q3.elim
            · cases q3
            · cases q3
              cases hr2 : isRnd r2.kind with
              | true => rw [hr2] at he; cases he
              | false =>
              rw [hr2] at he
              exact go_next hgo (Ext.refl ρ) (.one s) he ⟨hm, hg, ⟨b2, _, _, q0, q1, q2, .inl ⟨rfl, its3, by rw [hr2]; rfl⟩⟩, q4, hb⟩
          · cases he
      | rnd l => rw [hkind] at hnr; cases hnr
theorem panic_ok {E : Env} (hE : EnvOk E) {go : Go} {v : V} {m' : Mem} (hgo : GoOk E go v m') {F : Fx} {w0 : World} {f : FuncId} {cs : List Frame} {ρ : Rho} {tm : Tr V} {r : RF} {b : Frame} {tmps : Array Value} {dfs : List Deferred}
    {its : List Item} {fs m frs w} {u : V} {x : Value} (he : panicGo E go u tm r fs m r.df = some (v, m')) (hu : RelV ρ u x)
    (hB : BsRel ρ r.fn r.kind b) (hm : RM F w0 ρ m w) (hg : Glo E.T.g ρ) (ht : TmRel ρ r.nt tm tmps) (hd : DfRel ρ r.df dfs) (hf : FsRel ρ fs frs) (hb : bot r fs = f) :
    Res E F w0 ρ v m' f cs (lone { b.atR ⟨tmps, dfs⟩ its with mode := .panicking [{ v := x, recovered := false }] } (frs ++ cs) w) := by
  cases hdf : r.df with
  | cons d ds =>
    have hbt : bot ⟨r.fn, r.nt, ds, r.kind⟩ fs = f := by cases fs <;> exact hb
    rw [hdf] at he hd
    cases d with
    | call df dca das =>
      obtain ⟨ca, as, ys, rfl, h1, h2, h3⟩ := hd
      have he : entGo go .deferred df (das ++ dca) (⟨tm, [.pn u], ⟨r.fn, r.nt, ds, r.kind⟩⟩ :: fs) m (enterV E.P df (das ++ dca)) = some (v, m') := he
      refine ent_next (frs := { b.atR ⟨tmps, ys⟩ its with mode := .panicking [{ v := x, recovered := false }] } :: frs) hE hgo rfl he (fun fn c0 hf1 hf2 => ?_) hm hg (h2.append h1) ⟨_, _, rfl, ⟨b, tmps, ys, hB, ht, h3, .inr (.inr (.inl ⟨u, x, its, rfl, hu, rfl⟩))⟩, hf⟩ (fun _ => hbt)
      refine .one ?_
      have := step_defer (P := E.P) (fr := { b.atR ⟨tmps, { target := .fn (.func df) ca.toArray, args := as.toArray } :: ys⟩ its with mode := .panicking [{ v := x, recovered := false }] }) (cs := frs ++ cs) (w := w) (fv := .func df) (cap := ca.toArray) (f := df) (args := (as ++ ca).toArray)
        (by simp) rfl rfl (by
          simp only [invoke]
          rw [show as.toArray ++ ca.toArray = (as ++ ca).toArray by simp]
          exact run_callFunc_body hf1 hf2 (hE.ng _ fn hf1))
      exact this
    | coll bl =>
      obtain ⟨rl, cl, ys, hrl, rfl, h3⟩ := hd
      have he : colGo go bl (.pn u) tm ⟨r.fn, r.nt, ds, r.kind⟩ fs m (m.t.get bl) = some (v, m') := he
      unfold colGo at he
      split at he
      · rename_i hblk
        obtain ⟨hrun, hm2⟩ := col_take (E := E) hblk hrl hm
        have s1 := step_collected (P := E.P) (fr := { b.atR ⟨tmps, { target := .collected rl, args := #[] } :: ys⟩ its with mode := .panicking [{ v := x, recovered := false }] }) (cs := frs ++ cs) (by simp) rfl rfl hrun
        exact go_next hgo (Ext.refl ρ) (.one s1) he ⟨hm2, hg, ⟨b, tmps, ys, hB, ht, h3, .inr (.inr (.inl ⟨u, x, its, rfl, hu, rfl⟩))⟩, hf, hbt⟩
      · cases he
  | nil =>
    rw [hdf] at he hd
    have hd : dfs = [] := hd
    subst hd
    have he : upGo go u m (match E.P.funcs[r.fn]? with | some _ => true | none => false) r.kind fs = some (v, m') := he
    cases hfn : E.P.funcs[r.fn]? with
    | none => rw [hfn] at he; cases he
    | some fn =>
      rw [hfn] at he
      have he : upGo go u m true r.kind fs = some (v, m') := he
      have hleave : Frame.leaving E.P { b.atR ⟨tmps, []⟩ its with mode := .panicking [{ v := x, recovered := false }] } w (.panicked [{ v := x, recovered := false }]) := ⟨rfl, rfl, fn, by show E.P.funcs[b.fn]? = _; rw [hB.fn]; exact hfn⟩
      have up : ∀ (tm2 : Tr V) (i : VI) (k2 : List VI) (r2 : RF) (fs2 : List Fr), (∀ v', i ≠ .pn v') → (∀ v', i ≠ .pd v') → i ≠ .rt → fs = ⟨tm2, i :: k2, r2⟩ :: fs2 → go tm2 [.pn u] r2 fs2 m = some (v, m') →
          Res E F w0 ρ v m' f cs (lone { b.atR ⟨tmps, []⟩ its with mode := .panicking [{ v := x, recovered := false }] } (frs ++ cs) w) := by
        intro tm2 i k2 r2 fs2 n1 n2 n3 e hg2
        subst e
        obtain ⟨c, frs2, rfl, ⟨b2, tmps2, dfs2, q0, q1, q2, q3⟩, q4⟩ := hf
        rcases q3 with ⟨q3, _⟩ | ⟨its2, q3, rfl⟩ | ⟨_, _, _, q3, _⟩ | ⟨_, _, _, q3, _⟩
        · cases q3; exact absurd rfl n3
        · have s1 := step_leave_panicked (c := b2.atR ⟨tmps2, dfs2⟩ its2) (cs := frs2 ++ cs) hleave
          rw [Frame.raise_atR] at s1
          exact go_next hgo (Ext.refl ρ) (.one s1) hg2 ⟨hm, hg, ⟨b2, _, _, q0, q1, q2, .inr (.inr (.inl ⟨u, x, its2, rfl, hu, rfl⟩))⟩, q4, hb⟩
        · cases q3; exact absurd rfl (n1 _)
        · cases q3; exact absurd rfl (n2 _)
      unfold upGo at he
      split at he
      · cases he
      · cases he
      · exact up _ _ _ _ _ (fun _ h => by cases h) (fun _ h => by cases h) (fun h => by cases h) rfl he
      · exact up _ _ _ _ _ (fun _ h => by cases h) (fun _ h => by cases h) (fun h => by cases h) rfl he
      · cases he

theorem step_ok {E : Env} (hE : EnvOk E) {go : Go} {v : V} {m' : Mem} (hgo : GoOk E go v m') {F : Fx} {w0 : World} {f : FuncId} {cs : List Frame} {ρ : Rho} {tm todo r fs m fr frs w}
    (he : stepGo todo E go tm r fs m = some (v, m')) (h : SRel E F w0 ρ tm todo r fs m fr frs w f) : Res E F w0 ρ v m' f cs (lone fr (frs ++ cs) w) := by
  obtain ⟨hm, hg, ⟨b, tmps, dfs, hB, ht, hd, hc⟩, hf, hb⟩ := h
  have hB : BsRel ρ r.fn r.kind b := hB
  have ht : TmRel ρ r.nt tm tmps := ht
  have hd : DfRel ρ r.df dfs := hd
  have outs : ∀ (j : Option Code) (bl : Nat) (M : Machine), r.kind = .rnd bl → enrGo go bl j fs m (m.t.get bl) = some (v, m') →
      (∀ rl, b.roundOf = some rl → ∀ (x : Value) (w' : World) (c : Frame) (cs' : List Frame), frs = c :: cs' → (Instr.endRound rl j).run E.P w = .ok x w' → Steps E.P M (lone (c.finish x) (cs' ++ cs) w')) → Res E F w0 ρ v m' f cs M := by
    intro j bl M hkd he hs
    obtain ⟨rl, cl, hrl, hro⟩ : ∃ rl cl, ρ bl = some (rl, cl) ∧ b.roundOf = some rl := by have := hB.ro; rw [hkd] at this; exact this
    exact enr_next (nn := 0) (nt := 0) hgo he hrl (hs rl hro) hm hg hf (fun y ys e => by rw [← hb, e]; rfl)
  cases todo with
  | nil =>
    rcases hc with ⟨hc, _⟩ | ⟨its, hc, rfl⟩ | ⟨_, _, _, hc, _⟩ | ⟨_, _, _, hc, _⟩
    · cases hc
    · have hc : its = [] := hc
      subst hc
      have he : (bif isRnd r.kind then none else go tm [.rt] r fs m) = some (v, m') := he
      cases hr : isRnd r.kind with
      | true => rw [hr] at he; cases he
      | false =>
        rw [hr] at he
        exact go_next hgo (Ext.refl ρ) (.one (stepR_end (hB.none hr))) he ⟨hm, hg, ⟨b, _, _, hB, ht, hd, .inl ⟨rfl, _, by rw [hr]; rfl⟩⟩, hf, hb⟩
    · cases hc
    · cases hc
  | cons x k =>
    have he : viGo x E go k tm r fs m = some (v, m') := he
    rcases hc with ⟨hc, its, hfr⟩ | ⟨its, hc, rfl⟩ | ⟨u, y, its, hc, hu, rfl⟩ | ⟨u, y, its, hc, hu, rfl⟩
    · cases hc
      cases hr : isRnd r.kind with
      | true =>
        rw [hr] at hfr
        have hfr : fr = _ := hfr
        subst hfr
        cases hkd : r.kind with
        | rnd bl =>
          have he : retGo E go tm r fs m r.df = some (v, m') := he
          cases hdf : r.df with
          | cons d ds =>
            rw [hdf] at he
            cases d with
            | call _ _ _ => have he : (bif isRnd r.kind then none else _) = some (v, m') := he; rw [hr] at he; cases he
            | coll _ => have he : (bif isRnd r.kind then none else _) = some (v, m') := he; rw [hr] at he; cases he
          | nil =>
          rw [hdf] at he
          have he : outGo E go tm r fs m r.kind = some (v, m') := he
          rw [hkd] at he
          have he : enrGo go bl (some .ret) fs m (m.t.get bl) = some (v, m') := he
          refine outs (some .ret) bl _ hkd he fun rl hro x w' c cs' e hrun => ?_
          rw [e]
          exact .one (stepR_round_ret hro (by rw [hB.kind, hkd]; rfl) hrun)
        | _ => rw [hkd] at hr; cases hr
      | false =>
        rw [hr] at hfr
        have hfr : fr = _ := hfr
        subst hfr
        exact ret_ok hE hgo he hr hB hm hg ht hd hf hb
    · have hcons : x ≠ .lst → ∃ y ys, its = y :: ys ∧ ItRel ρ x y ∧ ItsRel ρ k ys := fun hx => by
        cases x <;> first | exact absurd rfl hx | exact hc
      have nx : ∀ {y ys k1 its1}, its = y :: ys → ItsRel ρ k1 its1 → go tm k1 r fs m = some (v, m') → Steps E.P (lone (b.atR ⟨tmps, dfs⟩ (y :: ys)) (frs ++ cs) w) (lone (b.atR ⟨tmps, dfs⟩ its1) (frs ++ cs) w) →
          Res E F w0 ρ v m' f cs (lone (b.atR ⟨tmps, dfs⟩ its) (frs ++ cs) w) := fun h0 h1 h2 h3 => by
        rw [h0]
        exact go_next hgo (Ext.refl ρ) h3 h2 ⟨hm, hg, ⟨b, _, _, hB, ht, hd, .inr (.inl ⟨_, h1, rfl⟩)⟩, hf, hb⟩
      cases x with
      | lst =>
        have hc : its = [] := hc
        subst hc
        have he : endGo go none fs m r.kind = some (v, m') := he
        unfold endGo at he
        split at he
        · rename_i bl hkd
          refine outs none bl _ hkd he fun rl hro x w' c cs' e hrun => ?_
          rw [e]
          exact .one (stepR_round_end hro (by rw [hB.kind, hkd]; rfl) hrun)
        · cases he
      | code c =>
        obtain ⟨y, ys, h0, hy, hk⟩ := hcons (fun h => by cases h)
        have hy : y = .code c := hy
        subst hy; subst h0
        exact code_ok hE hgo he hB hm hg ht hd hk hf hb
      | blk id =>
        obtain ⟨y, ys, h0, hy, hk⟩ := hcons (fun h => by cases h)
        have hy : y = .inBlock id := hy
        subst hy
        exact nx h0 hk he (.one stepR_inBlock)
      | sc c =>
        obtain ⟨y, ys, h0, hy, hk⟩ := hcons (fun h => by cases h)
        have hy : y = .inScope c := hy
        subst hy
        exact nx h0 hk he (.one (step_lone_go (by simp [stepG, stepG.exec, Frame.atR])))
      | lp c =>
        obtain ⟨y, ys, h0, hy, hk⟩ := hcons (fun h => by cases h)
        have hy : y = .inLoop c := hy
        subst hy
        exact nx (k1 := .code c :: .lp c :: k) (its1 := .code c :: .inLoop c :: ys) h0 ⟨_, _, rfl, rfl, _, _, rfl, rfl, hk⟩ he (.one stepR_inLoop)
      | ops l all =>
        obtain ⟨y, ys, h0, ⟨kk, hy, hl⟩, hk⟩ := hcons (fun h => by cases h)
        subst hy
        cases l with
        | nil => exact nx h0 hk he (.one stepR_region_end)
        | cons o l => subst h0; exact op_ok hE hgo he hB hm hg ht hd hl hk hf hb
      | rt => obtain ⟨y, ys, h0, hy, hk⟩ := hcons (fun h => by cases h); exact hy.elim
      | pn u => obtain ⟨y, ys, h0, hy, hk⟩ := hcons (fun h => by cases h); exact hy.elim
      | pd u => obtain ⟨y, ys, h0, hy, hk⟩ := hcons (fun h => by cases h); exact hy.elim
      | inR bl => cases he
      | enR bl =>
        obtain ⟨y, ys, h0, ⟨rl, cl, hrl, hy⟩, hk⟩ := hcons (fun h => by cases h)
        subst hy; subst h0
        have he : lpeGo go bl k tm r fs m (m.t.get bl) = some (v, m') := he
        unfold lpeGo at he
        split at he
        · cases he
        · rename_i st j fn nt t ps ac bd d hst hblk
          obtain ⟨_, x, h1, tmps1, rd, cd, rfl, h2, h3⟩ := hm.at hblk hrl
          have hend := run_endLoop (P := E.P) h1 (by intro e; exact hst e)
          have hm2 := hm.setO hblk hrl (o' := .loop .exhausted j fn nt t ps ac bd d) ⟨tmps1, rd, cd, rfl, h2, h3⟩
          have s1 := stepR_endRangeFunc (b := b) (a := ⟨tmps, dfs⟩) (k := ys) (cs := frs ++ cs) hend
          split at he
          · exact go_next hgo (Ext.refl ρ) (.one s1) he ⟨hm2, hg, ⟨b, _, _, hB, ht, hd, .inr (.inl ⟨_, hk, rfl⟩)⟩, hf, hb⟩
          · exact go_next hgo (Ext.refl ρ) (.one s1) he ⟨hm2, hg, ⟨b, _, _, hB, ht, hd, .inr (.inl ⟨_, ⟨_, _, rfl, rfl, hk⟩, rfl⟩)⟩, hf, hb⟩
        · cases he
      | beR =>
        obtain ⟨y, ys, h0, hy, hk⟩ := hcons (fun h => by cases h)
        have hy : y = .beginRound := hy
        subst hy; subst h0
        have he : begGo go k tm r fs m r.kind = some (v, m') := he
        unfold begGo at he
        split at he
        · rename_i bl hkd
          obtain ⟨rl, cl, hrl, hro⟩ : ∃ rl cl, ρ bl = some (rl, cl) ∧ b.roundOf = some rl := by have := hB.ro; rw [hkd] at this; exact this
          unfold bgnGo at he
          split at he
          · rename_i j fn nt t ps ac bd d hblk
            obtain ⟨_, x, h1, tmps1, rd, cd, rfl, h2, h3⟩ := hm.at hblk hrl
            have hbeg := run_beginRound (P := E.P) h1 rfl
            have hm2 := hm.setO hblk hrl (o' := .loop .busy j fn nt t ps ac bd d) ⟨tmps1, rd, cd, rfl, h2, h3⟩
            exact go_next hgo (Ext.refl ρ) (.one (stepR_beginRound hro hbeg)) he ⟨hm2, hg, ⟨b, _, _, hB, ht, hd, .inr (.inl ⟨_, hk, rfl⟩)⟩, hf, hb⟩
          · cases he
        · cases he
    · cases hc
      exact panic_ok hE hgo he hu hB hm hg ht hd hf hb
    · cases hc
      cases he

theorem run_ok {E : Env} (hE : EnvOk E) (v : V) (m' : Mem) : ∀ n, GoOk E (run E n) v m'
  | 0 => fun tm todo r fs m h => by cases h
  | n + 1 => fun tm todo r fs m h F w0 ρ w fr frs f cs hs => step_ok hE (run_ok hE v m' n) (by rw [run_succ] at h; exact h) hs

/-- A call that the machine reckons. -/
theorem callE_ok {E : Env} (hE : EnvOk E) {n : Nat} {f : FuncId} {as : List V} {m m' : Mem} {v : V} (he : callE E n f as m = some (v, m')) {F : Fx} {w0 w : World} {ρ : Rho} {xs : List Value} (hm : RM F w0 ρ m w) (hg : Glo E.T.g ρ) (ha : RelL ρ as xs) :
    Calls E.P f (List.toArray xs) w fun e w' => ∃ ρ' x, e = .returned x ∧ Ext ρ ρ' ∧ RelV ρ' v x ∧ RM F w0 ρ' m' w' := by
  intro cs
  have h : Res E F w0 ρ v m' f cs (lone (Frame.enter E.P f xs.toArray .normal) cs w) :=
    ent_next (frs := []) (kind := .normal) hE (run_ok hE v m' n) rfl he (fun _ _ _ _ => Steps.refl _ _) hm hg ha rfl (fun _ => rfl)
  obtain ⟨ρ', x, w', fr', h1, h2, h3, h4, h5, h6⟩ := h
  exact ⟨.returned x, w', fr', ⟨ρ', x, rfl, h1, h2, h3⟩, h4, h6, h5⟩
end Go.CE
