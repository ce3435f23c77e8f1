/-
  CLOSED EVALUATION, 12: the machine's run is the program's.
-/
import Derived.Test.YtnodogpaadobnaaDoorCeK
noncomputable section
namespace Go.CE
open Go
set_option linter.unusedSimpArgs false
set_option linter.unusedVariables false

section
variable {E : Env} {go : Go} {v : V} {m' : Mem} {F : Fx} {w0 : World} {f : FuncId} {cs : List Frame}
theorem go_next (hgo : GoOk E go v m') {ρ ρ1 : Rho} {M : Machine} {tm todo r fs m fr frs w} (hx : Ext ρ ρ1) (hs : Steps E.P M (lone fr (frs ++ cs) w)) (he : go tm todo r fs m = some (v, m'))
    (h : SRel E F w0 ρ1 tm todo r fs m fr frs w f) : Res E F w0 ρ v m' f cs M :=
  Res.step hx hs (hgo _ _ _ _ _ he F w0 ρ1 w fr frs f cs h)
/-- Behind an operation. -/
theorem put_next (hgo : GoOk E go v m') {ρ ρ1 : Rho} {M : Machine} {tm : Tr V} {r : RF} {tmps : Array Value} {dfs : List Deferred} {kk : Nat} {o : Oper} {l : List Oper} {all : Array Oper} {k : List VI} {its : List Item} {fs m frs w} {u : V} {x : Value}
    (hx : Ext ρ ρ1) (hs : Steps E.P M (lone ((bs r).at ((⟨tmps, dfs⟩ : Act).put o.dst x) (.inRegion all (List.range' (kk + 1) l.length) :: its)) (frs ++ cs) w))
    (he : putGo go l all k r fs m (putTm r.nt tm o.dst u) = some (v, m')) (hm : RM F w0 ρ1 m w) (hg : Glo E.T.g ρ1) (ht : TmRel ρ1 r.nt tm tmps) (hd : DfRel ρ1 r.df dfs) (hu : RelV ρ1 u x)
    (hl : l = all.toList.drop (kk + 1)) (hk : ItsRel k its) (hf : FsRel ρ1 fs frs) (hb : bot r fs = f) : Res E F w0 ρ v m' f cs M := by
  unfold putGo at he
  split at he
  · cases he
  · rename_i tm1 hp
    obtain ⟨h1, h2⟩ := ht.put (dfs := dfs) hu hp
    have hd' : DfRel ρ1 r.df ((⟨tmps, dfs⟩ : Act).put o.dst x).defers := by rw [h2]; exact hd
    refine go_next hgo hx hs he ⟨hm, hg, ⟨_, _, h1, hd', .inr ⟨_, ⟨_, _, rfl, ⟨kk + 1, rfl, hl⟩, hk⟩, rfl⟩⟩, hf, hb⟩
theorem ent_next (hE : EnvOk E) (hgo : GoOk E go v m') {ρ : Rho} {M : Machine} {g : FuncId} {as : List V} {xs : List Value} {kind : CallKind} {fs m frs w}
    (he : entGo go kind g as fs m (enterV E.P g as) = some (v, m')) (hs : ∀ fn c, E.P.funcs[g]? = some fn → fn.body = some c → Steps E.P M (lone (Frame.enter E.P g xs.toArray kind) (frs ++ cs) w))
    (hm : RM F w0 ρ m w) (hg : Glo E.T.g ρ) (ha : RelL ρ as xs) (hf : FsRel ρ fs frs) (hb : ∀ nt, bot ⟨g, nt, [], kind⟩ fs = f) : Res E F w0 ρ v m' f cs M := by
  unfold entGo at he
  split at he
  · cases he
  · rename_i nt c hen
    unfold enterV at hen
    split at hen
    · cases hen
    · rename_i fn hfn
      split at hen
      · cases hen
      · rename_i c' hc
        split at hen
        · rename_i hle
          have hle := Nat.le_of_ble_eq_true hle
          cases hen
          have hs1 := hs fn c hfn hc
          rw [enter_at kind hfn hc] at hs1
          exact go_next hgo (Ext.refl ρ) hs1 he ⟨hm, hg, ⟨_, _, tm_enter ha hle, rfl, .inr ⟨_, ⟨_, _, rfl, rfl, rfl⟩, rfl⟩⟩, hf, hb _⟩
        · cases hen
end

theorem op_ok {E : Env} (hE : EnvOk E) {go : Go} {v : V} {m' : Mem} (hgo : GoOk E go v m') {F : Fx} {w0 : World} {f : FuncId} {cs : List Frame} {ρ : Rho} {tm : Tr V} {r : RF} {tmps : Array Value} {dfs : List Deferred}
    {kk : Nat} {o : Oper} {l : List Oper} {all : Array Oper} {k : List VI} {its : List Item} {fs m frs w} (he : wantGo E go o l all k tm r fs m (wantedV all tm o.guard) = some (v, m'))
    (hm : RM F w0 ρ m w) (hg : Glo E.T.g ρ) (ht : TmRel ρ r.nt tm tmps) (hd : DfRel ρ r.df dfs) (hl : o :: l = all.toList.drop kk) (hk : ItsRel k its) (hf : FsRel ρ fs frs) (hb : bot r fs = f) :
    Res E F w0 ρ v m' f cs (lone ((bs r).at ⟨tmps, dfs⟩ (.inRegion all (List.range' kk (o :: l).length) :: its)) (frs ++ cs) w) := by
  obtain ⟨ho, hl1, hr⟩ := range'_cons hl
  rw [hr]
  have hw := wanted_rel ht all o
  have hev := evO_rel (dfs := dfs) hg ht
  rw [← hw] at he
  cases hwant : Region.wanted o (yielded all tmps) with
  | false =>
    rw [hwant] at he
    exact put_next hgo (Ext.refl ρ) (.one (st_unwanted ho hwant)) he hm hg ht hd undef_rel hl1 hk hf hb
  | true =>
    rw [hwant] at he
    have he : opGo (opC o.op) E go o l all k tm r fs m = some (v, m') := he
    cases hop : opC o.op with
    | plain =>
      rw [hop] at he
      have he : valGo go o.dst l all k tm r fs (exOp o.op E.P (evO E.T.g tm) m) = some (v, m') := he
      cases hex : exOp o.op E.P (evO E.T.g tm) m with
      | none => rw [hex] at he; cases he
      | some p =>
        obtain ⟨u, m1⟩ := p
        rw [hex] at he
        obtain ⟨ρ1, x, w1, h1, h2, h3, h4⟩ := exOp_ok hev hm hex
        rcases h2 with h2 | ⟨h2, rfl⟩
        · exact put_next hgo h1 (.one (st_value ho hwant h2)) he h4 (hg.mono h1) (ht.mono h1) (hd.mono h1) h3 hl1 hk (hf.mono h1) hb
        · exact put_next hgo h1 (.one (st_skip ho hwant h2)) he h4 (hg.mono h1) (ht.mono h1) (hd.mono h1) h3 hl1 hk (hf.mono h1) hb
    | call c =>
      rw [hop] at he
      have hoc : o.op = .call c := by
        unfold opC at hop
        split at hop
        · rename_i c' hc'
          split at hop
          · cases hop; exact hc'
          · cases hop
        · cases hop
        · cases hop
      have he : callGo E go o l all k tm r fs m (calleeV c.callee c.args (evO E.T.g tm)) = some (v, m') := he
      cases hc : calleeV c.callee c.args (evO E.T.g tm) with
      | none => rw [hc] at he; cases he
      | some p =>
        obtain ⟨g, as, ca⟩ := p
        rw [hc] at he
        obtain ⟨xs, ys, h1, h2, h3⟩ := callee_rel hev hc
        have hrun : ∀ w, (execOp (⟨tmps, dfs⟩ : Act).eval o).run E.P w = (callFunc g (xs ++ ys).toArray).run E.P w := fun w => by
          unfold execOp
          simp only [hoc, Sem.run_bind, h3, Result.andThen_ok, invoke]
          congr 2
          apply Array.ext'; simp
        have hap := h1.append h2
        have he : extGo E go o l all k tm r fs m g (as ++ ca) (E.T.ext g) = some (v, m') := he
        cases hext : E.T.ext g with
        | some e =>
          rw [hext] at he
          have he : valGo go o.dst l all k tm r fs (e (as ++ ca) m) = some (v, m') := he
          cases hee : e (as ++ ca) m with
          | none => rw [hee] at he; cases he
          | some p =>
            obtain ⟨u, m1⟩ := p
            rw [hee] at he
            obtain ⟨ρ1, x, w1, k1, k2, k3, k4⟩ := hE.ext g e _ m u m1 hext hee F w0 ρ w _ hm hap
            exact put_next hgo k1 (.one (st_value ho hwant ((hrun w).trans k2))) he k4 (hg.mono k1) (ht.mono k1) (hd.mono k1) k3 hl1 hk (hf.mono k1) hb
        | none =>
          rw [hext] at he
          have he : ownGo E go o l all k tm r fs m g (as ++ ca) (E.T.sum g) = some (v, m') := he
          cases hsum : E.T.sum g with
          | some e =>
            rw [hsum] at he
            have he : valGo go o.dst l all k tm r fs (e (as ++ ca) m) = some (v, m') := he
            cases hee : e (as ++ ca) m with
            | none => rw [hee] at he; cases he
            | some p =>
              obtain ⟨u, m1⟩ := p
              rw [hee] at he
              obtain ⟨⟨fn, c0, hf1, hf2⟩, hcall⟩ := hE.sum g e _ m u m1 hsum hee
              obtain ⟨ed, w1, fr1, ⟨ρ1, x, rfl, k1, k3, k4⟩, hcomes, hfn, hleave⟩ := hcall F w0 ρ w _ hm hg hap ((bs r).at ⟨tmps, dfs⟩ (.inRegion all (kk :: List.range' (kk + 1) l.length) :: its) :: (frs ++ cs))
              have s1 := st_enter (P := E.P) (b := bs r) (a := ⟨tmps, dfs⟩) (k := its) (cs := frs ++ cs) (w := w) (rest := List.range' (kk + 1) l.length) ho hwant ((hrun w).trans (run_callFunc_body hf1 hf2 (hE.ng g fn hf1)))
              have s2 := step_leave_returned (c := (bs r).at ⟨tmps, dfs⟩ (.inRegion all (kk :: List.range' (kk + 1) l.length) :: its)) (cs := frs ++ cs) hleave
              rw [fin_at ho] at s2
              have hcomes : Steps E.P _ _ := hcomes
              exact put_next hgo k1 (.head s1 (hcomes.trans (.one s2))) he k4 (hg.mono k1) (ht.mono k1) (hd.mono k1) k3 hl1 hk (hf.mono k1) hb
          | none =>
            rw [hsum] at he
            have he : entGo go .normal g (as ++ ca) (⟨tm, .ops (o :: l) all :: k, r⟩ :: fs) m (enterV E.P g (as ++ ca)) = some (v, m') := he
            refine ent_next (frs := (bs r).at ⟨tmps, dfs⟩ (.inRegion all (kk :: List.range' (kk + 1) l.length) :: its) :: frs) hE hgo he (fun fn c0 hf1 hf2 => ?_) hm hg hap ⟨_, _, rfl, ⟨_, _, ht, hd, .inr ⟨_, ⟨_, _, rfl, ⟨kk, by rw [hr], hl⟩, hk⟩, rfl⟩⟩, hf⟩ (fun _ => hb)
            exact .one (st_enter ho hwant ((hrun w).trans (run_callFunc_body hf1 hf2 (hE.ng g fn hf1))))
    | defr c =>
      rw [hop] at he
      have hoc : o.op = .defer c := by
        unfold opC at hop
        split at hop
        · split at hop <;> cases hop
        · rename_i c' hc'; cases hop; exact hc'
        · cases hop
      have he : defGo go o l all k tm r fs m (calleeV c.callee c.args (evO E.T.g tm)) = some (v, m') := he
      cases hc : calleeV c.callee c.args (evO E.T.g tm) with
      | none => rw [hc] at he; cases he
      | some p =>
        obtain ⟨g, as, ca⟩ := p
        rw [hc] at he
        obtain ⟨xs, ys, h1, h2, h3⟩ := callee_rel hev hc
        have hrun : (execOp (⟨tmps, dfs⟩ : Act).eval o).run E.P w = .ok (.defer { target := .fn (.func g) ys.toArray, args := xs.toArray }) w := by
          unfold execOp
          simp only [hoc, Sem.run_bind, h3, Result.andThen_ok, Sem.run_pure]
        have he : putGo go l all k ⟨r.fn, r.nt, ⟨g, ca, as⟩ :: r.df, r.kind⟩ fs m (putTm r.nt tm o.dst undefV) = some (v, m') := he
        have s1 := st_defer (P := E.P) (b := bs r) (a := ⟨tmps, dfs⟩) (k := its) (cs := frs ++ cs) (rest := List.range' (kk + 1) l.length) ho hwant hrun
        have hb' : bot ⟨r.fn, r.nt, ⟨g, ca, as⟩ :: r.df, r.kind⟩ fs = f := by cases fs <;> exact hb
        exact put_next (r := ⟨r.fn, r.nt, ⟨g, ca, as⟩ :: r.df, r.kind⟩) hgo (Ext.refl ρ) (.one s1) he hm hg ht ⟨ys, xs, dfs, rfl, h2, h1, hd⟩ undef_rel hl1 hk hf hb'

theorem code_ok {E : Env} (hE : EnvOk E) {go : Go} {v : V} {m' : Mem} (hgo : GoOk E go v m') {F : Fx} {w0 : World} {f : FuncId} {cs : List Frame} {ρ : Rho} {tm : Tr V} {r : RF} {tmps : Array Value} {dfs : List Deferred}
    {c : Code} {k : List VI} {its : List Item} {fs m frs w} (he : codeGo c E go k tm r fs m = some (v, m'))
    (hm : RM F w0 ρ m w) (hg : Glo E.T.g ρ) (ht : TmRel ρ r.nt tm tmps) (hd : DfRel ρ r.df dfs) (hk : ItsRel k its) (hf : FsRel ρ fs frs) (hb : bot r fs = f) :
    Res E F w0 ρ v m' f cs (lone ((bs r).at ⟨tmps, dfs⟩ (.code c :: its)) (frs ++ cs) w) := by
  have nx : ∀ {k1 its1}, ItsRel k1 its1 → go tm k1 r fs m = some (v, m') → Steps E.P (lone ((bs r).at ⟨tmps, dfs⟩ (.code c :: its)) (frs ++ cs) w) (lone ((bs r).at ⟨tmps, dfs⟩ its1) (frs ++ cs) w) →
      Res E F w0 ρ v m' f cs (lone ((bs r).at ⟨tmps, dfs⟩ (.code c :: its)) (frs ++ cs) w) := fun h1 h2 h3 =>
    go_next hgo (Ext.refl ρ) h3 h2 ⟨hm, hg, ⟨_, _, ht, hd, .inr ⟨_, h1, rfl⟩⟩, hf, hb⟩
  cases c with
  | skip => exact nx hk he (.one step_skip)
  | label l => exact nx hk he (.one step_label)
  | ret => exact go_next hgo (Ext.refl ρ) (.one step_ret) he ⟨hm, hg, ⟨_, _, ht, hd, .inl ⟨rfl, _, rfl⟩⟩, hf, hb⟩
  | seq a b => exact nx (k1 := .code a :: .code b :: k) (its1 := .code a :: .code b :: its) ⟨_, _, rfl, rfl, _, _, rfl, rfl, hk⟩ he (.one step_seq)
  | block id c => exact nx (k1 := .code c :: .blk id :: k) (its1 := .code c :: .inBlock id :: its) ⟨_, _, rfl, rfl, _, _, rfl, rfl, hk⟩ he (.one step_block)
  | loop c => exact nx (k1 := .code c :: .lp c :: k) (its1 := .code c :: .inLoop c :: its) ⟨_, _, rfl, rfl, _, _, rfl, rfl, hk⟩ he (.one step_loop)
  | scope c => exact nx (k1 := .code c :: .sc c :: k) (its1 := .code c :: .inScope c :: its) ⟨_, _, rfl, rfl, _, _, rfl, rfl, hk⟩ he (.one (step_lone_go (by simp [stepG, stepG.exec, Frame.at])))
  | cond x a b =>
    have he : condGo go a b k tm r fs m (evO E.T.g tm x) = some (v, m') := he
    unfold condGo at he
    split at he
    · rename_i hx
      have := evO_rel (dfs := dfs) hg ht _ _ hx
      rw [RelV] at this
      exact nx (k1 := .code a :: k) (its1 := .code a :: its) ⟨_, _, rfl, rfl, hk⟩ he (.one (by have := step_cond (P := E.P) (b := bs r) (k := its) (cs := frs ++ cs) (w := w) (x := a) (y := b) this; simpa using this))
    · rename_i hx
      have := evO_rel (dfs := dfs) hg ht _ _ hx
      rw [RelV] at this
      exact nx (k1 := .code b :: k) (its1 := .code b :: its) ⟨_, _, rfl, rfl, hk⟩ he (.one (by have := step_cond (P := E.P) (b := bs r) (k := its) (cs := frs ++ cs) (w := w) (x := a) (y := b) this; simpa using this))
    · cases he
  | exit id =>
    have he : exitGo go tm r fs m (exitV id k) = some (v, m') := he
    unfold exitGo at he
    split at he
    · cases he
    · rename_i k1 hk1
      obtain ⟨its1, h1, h2⟩ := exit_rel hk1 hk
      exact nx h2 he (.one (step_exit h1))
  | region id ops d =>
    cases d with
    | false =>
      have he : go tm (.ops ops.toList ops :: k) r fs m = some (v, m') := he
      refine nx (k1 := .ops ops.toList ops :: k) (its1 := .inRegion ops (List.range ops.size) :: its) ⟨_, _, rfl, ⟨0, by rw [List.range_eq_range']; simp, by simp⟩, hk⟩ he (.one step_region)
    | true =>
      have he : drawGo go k r fs (E.draw ops r.nt tm m) = some (v, m') := he
      unfold drawGo at he
      split at he
      · cases he
      · rename_i tm1 m1 hdr
        obtain ⟨ρ1, w1, tmps1, h1, h2, h3, h4⟩ := hE.draw ops r.nt tm m tm1 m1 hdr F w0 ρ w tmps dfs id (bs r) its (frs ++ cs) hm hg ht
        exact go_next hgo h1 h4 he ⟨h3, hg.mono h1, ⟨_, _, h2, hd.mono h1, .inr ⟨_, hk, rfl⟩⟩, hf.mono h1, hb⟩
  | _ => cases he

theorem ret_ok {E : Env} (hE : EnvOk E) {go : Go} {v : V} {m' : Mem} (hgo : GoOk E go v m') {F : Fx} {w0 : World} {f : FuncId} {cs : List Frame} {ρ : Rho} {tm : Tr V} {r : RF} {tmps : Array Value} {dfs : List Deferred}
    {its : List Item} {fs m frs w} (he : retGo E go tm r fs m r.df = some (v, m'))
    (hm : RM F w0 ρ m w) (hg : Glo E.T.g ρ) (ht : TmRel ρ r.nt tm tmps) (hd : DfRel ρ r.df dfs) (hf : FsRel ρ fs frs) (hb : bot r fs = f) :
    Res E F w0 ρ v m' f cs (lone { (bs r).at ⟨tmps, dfs⟩ its with mode := .returning } (frs ++ cs) w) := by
  cases hdf : r.df with
  | cons d ds =>
    rw [hdf] at he hd
    obtain ⟨ca, as, ys, rfl, h1, h2, h3⟩ := hd
    have he : entGo go .deferred d.f (d.as ++ d.ca) (⟨tm, [.rt], ⟨r.fn, r.nt, ds, r.kind⟩⟩ :: fs) m (enterV E.P d.f (d.as ++ d.ca)) = some (v, m') := he
    refine ent_next (frs := { (bs r).at ⟨tmps, ys⟩ its with mode := .returning } :: frs) hE hgo he (fun fn c0 hf1 hf2 => ?_) hm hg (h2.append h1) ⟨_, _, rfl, ⟨tmps, ys, ht, h3, .inl ⟨rfl, its, rfl⟩⟩, hf⟩ (fun _ => by
      show bot ⟨r.fn, r.nt, ds, r.kind⟩ fs = f
      cases fs <;> exact hb)
    refine .one ?_
    have := step_defer (P := E.P) (fr := { (bs r).at ⟨tmps, { target := .fn (.func d.f) ca.toArray, args := as.toArray } :: ys⟩ its with mode := .returning }) (cs := frs ++ cs) (w := w) (fv := .func d.f) (cap := ca.toArray) (f := d.f) (args := (as ++ ca).toArray)
      (by simp) rfl rfl (by
        simp only [invoke]
        rw [show as.toArray ++ ca.toArray = (as ++ ca).toArray by simp]
        exact run_callFunc_body hf1 hf2 (hE.ng _ fn hf1))
    exact this
  | nil =>
    rw [hdf] at he hd
    have hd : dfs = [] := hd
    subst hd
    have he : resGo go r fs m (resOf E.P r.fn tm m) = some (v, m') := he
    unfold resGo at he
    split at he
    · cases he
    · rename_i u hu
      obtain ⟨fn, x, hf1, hx1, hx2⟩ := resOf_rel (P := E.P) hm ht hu
      cases hkind : r.kind with
      | normal =>
        rw [hkind] at he
        have he : finGo go u m fs = some (v, m') := he
        have hleave : Frame.leaving E.P { (bs r).at ⟨tmps, []⟩ its with mode := .returning } w (.returned x) := ⟨rfl, rfl, hkind, fn, hf1, hx1⟩
        cases fs with
        | nil =>
          have he : some (u, m) = some (v, m') := he
          cases he
          have hfr : frs = [] := hf
          subst hfr
          exact ⟨ρ, x, w, _, Ext.refl ρ, hx2, hm, Steps.refl _ _, hleave, hb⟩
        | cons y fs1 =>
          obtain ⟨tm2, todo2, r2⟩ := y
          obtain ⟨c, frs1, rfl, ⟨tmps2, dfs2, q1, q2, q3⟩, q4⟩ := hf
          unfold finGo at he
          split at he
          · rename_i heq; cases heq
          · rename_i tm3 o l all k r3 fs3 heq
            cases heq
            rcases q3 with ⟨q3, _⟩ | ⟨its2, q3, rfl⟩
            · cases q3
            · obtain ⟨y, ys, rfl, ⟨kk, rfl, hl⟩, hk2⟩ := q3
              obtain ⟨ho, hl1, hr⟩ := range'_cons hl
              have s := step_leave_returned (c := (bs r2).at ⟨tmps2, dfs2⟩ (.inRegion all (List.range' kk (o :: l).length) :: ys)) (cs := frs1 ++ cs) hleave
              rw [hr, fin_at ho] at s
              rw [hr]
              exact put_next hgo (Ext.refl ρ) (.one s) he hm hg q1 q2 hx2 hl1 hk2 q4 hb
          · cases he
      | deferred =>
        rw [hkind] at he
        have he : backGo go m fs = some (v, m') := he
        cases fs with
        | nil => cases he
        | cons y fs1 =>
          obtain ⟨tm2, todo2, r2⟩ := y
          obtain ⟨c, frs1, rfl, ⟨tmps2, dfs2, q1, q2, q3⟩, q4⟩ := hf
          unfold backGo at he
          split at he
          · rename_i heq
            cases heq
            rcases q3 with ⟨_, its2, rfl⟩ | ⟨its2, q3, rfl⟩
            · have hgoing : Frame.going E.P { (bs r).at ⟨tmps, []⟩ its with mode := .returning } w (.returned x) := ⟨rfl, rfl, fn, hf1, hx1⟩
              have s := step_going_returned (c := { (bs r2).at ⟨tmps2, dfs2⟩ its2 with mode := .returning }) (cs := frs1 ++ cs) hkind hgoing
              exact go_next hgo (Ext.refl ρ) (.one s) he ⟨hm, hg, ⟨_, _, q1, q2, .inl ⟨rfl, its2, rfl⟩⟩, q4, hb⟩
            · obtain ⟨y, ys, _, hy, _⟩ := q3
              exact hy.elim
          · cases he
      | wrapped => rw [hkind] at he; cases he
      | report => rw [hkind] at he; cases he
      | early => rw [hkind] at he; cases he

theorem step_ok {E : Env} (hE : EnvOk E) {go : Go} {v : V} {m' : Mem} (hgo : GoOk E go v m') {F : Fx} {w0 : World} {f : FuncId} {cs : List Frame} {ρ : Rho} {tm todo r fs m fr frs w}
    (he : stepGo todo E go tm r fs m = some (v, m')) (h : SRel E F w0 ρ tm todo r fs m fr frs w f) : Res E F w0 ρ v m' f cs (lone fr (frs ++ cs) w) := by
  obtain ⟨hm, hg, ⟨tmps, dfs, ht, hd, hc⟩, hf, hb⟩ := h
  have ht : TmRel ρ r.nt tm tmps := ht
  have hd : DfRel ρ r.df dfs := hd
  cases todo with
  | nil =>
    rcases hc with ⟨hc, _⟩ | ⟨its, hc, rfl⟩
    · cases hc
    · have hc : its = [] := hc
      subst hc
      exact go_next hgo (Ext.refl ρ) (.one step_end) he ⟨hm, hg, ⟨_, _, ht, hd, .inl ⟨rfl, _, rfl⟩⟩, hf, hb⟩
  | cons x k =>
    have he : viGo x E go k tm r fs m = some (v, m') := he
    rcases hc with ⟨hc, its, rfl⟩ | ⟨its, hc, rfl⟩
    · cases hc
      exact ret_ok hE hgo he hm hg ht hd hf hb
    · obtain ⟨y, ys, rfl, hy, hk⟩ := hc
      have nx : ∀ {k1 its1}, ItsRel k1 its1 → go tm k1 r fs m = some (v, m') → Steps E.P (lone ((bs r).at ⟨tmps, dfs⟩ (y :: ys)) (frs ++ cs) w) (lone ((bs r).at ⟨tmps, dfs⟩ its1) (frs ++ cs) w) →
          Res E F w0 ρ v m' f cs (lone ((bs r).at ⟨tmps, dfs⟩ (y :: ys)) (frs ++ cs) w) := fun h1 h2 h3 =>
        go_next hgo (Ext.refl ρ) h3 h2 ⟨hm, hg, ⟨_, _, ht, hd, .inr ⟨_, h1, rfl⟩⟩, hf, hb⟩
      cases x with
      | code c => have hy : y = _ := hy; subst hy; exact code_ok hE hgo he hm hg ht hd hk hf hb
      | blk id => have hy : y = _ := hy; subst hy; exact nx hk he (.one step_inBlock)
      | sc c => have hy : y = _ := hy; subst hy; exact nx hk he (.one (step_lone_go (by simp [stepG, stepG.exec, Frame.at])))
      | lp c => have hy : y = _ := hy; subst hy; exact nx (k1 := .code c :: .lp c :: k) (its1 := .code c :: .inLoop c :: ys) ⟨_, _, rfl, rfl, _, _, rfl, rfl, hk⟩ he (.one step_inLoop)
      | ops l all =>
        obtain ⟨kk, hy, hl⟩ := hy
        subst hy
        cases l with
        | nil => exact nx hk he (.one step_region_end)
        | cons o l => exact op_ok hE hgo he hm hg ht hd hl hk hf hb
      | rt => exact hy.elim

theorem run_ok {E : Env} (hE : EnvOk E) (v : V) (m' : Mem) : ∀ n, GoOk E (run E n) v m'
  | 0 => fun tm todo r fs m h => by cases h
  | n + 1 => fun tm todo r fs m h F w0 ρ w fr frs f cs hs => step_ok hE (run_ok hE v m' n) (by rw [run_succ] at h; exact h) hs

/-- A call that the machine reckons. -/
theorem callE_ok {E : Env} (hE : EnvOk E) {n : Nat} {f : FuncId} {as : List V} {m m' : Mem} {v : V} (he : callE E n f as m = some (v, m')) {F : Fx} {w0 w : World} {ρ : Rho} {xs : List Value} (hm : RM F w0 ρ m w) (hg : Glo E.T.g ρ) (ha : RelL ρ as xs) :
    Calls E.P f (List.toArray xs) w fun e w' => ∃ ρ' x, e = .returned x ∧ Ext ρ ρ' ∧ RelV ρ' v x ∧ RM F w0 ρ' m' w' := by
  intro cs
  have h : Res E F w0 ρ v m' f cs (lone (Frame.enter E.P f xs.toArray .normal) cs w) :=
    ent_next (frs := []) hE (run_ok hE v m' n) he (fun _ _ _ _ => Steps.refl _ _) hm hg ha rfl (fun _ => rfl)
  obtain ⟨ρ', x, w', fr', h1, h2, h3, h4, h5, h6⟩ := h
  exact ⟨.returned x, w', fr', ⟨ρ', x, rfl, h1, h2, h3⟩, h4, h6, h5⟩
end Go.CE
