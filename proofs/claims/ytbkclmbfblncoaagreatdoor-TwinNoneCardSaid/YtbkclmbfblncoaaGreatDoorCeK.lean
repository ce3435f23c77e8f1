/-
  CLOSED EVALUATION, 11: what the machine of frames reckons is what the program does.
-/
import Derived.Test.YtbkclmbfblncoaaGreatDoorCeJ
import Derived.RangeFuncIn
import Derived.RangeFuncLeaves
noncomputable section
namespace Go.CE
open Go
set_option linter.unusedSimpArgs false
set_option linter.unusedVariables false

/-! frames -/
theorem TmRel.put {ρ : Rho} {nt tm tmps d v x tm'} {dfs : List Deferred} (h : TmRel ρ nt tm tmps) (hv : RelV ρ v x) (hp : putTm nt tm d v = some tm') : TmRel ρ nt tm' ((⟨tmps, dfs⟩ : Act).put d x).tmps ∧ ((⟨tmps, dfs⟩ : Act).put d x).defers = dfs := by
  unfold putTm at hp
  split at hp
  · cases hp; exact ⟨h, rfl⟩
  · rename_i k
    split at hp
    · rename_i hk
      have hk := blt_lt hk
      cases hp
      refine ⟨⟨by simpa [Act.put] using h.size, fun i hi => ?_, fun i y hi => ?_⟩, rfl⟩
      · simp only [Act.put, Array.size_setIfInBounds] at hi
        have := h.size
        rw [Tr.get_set_ne _ _ (by omega)]; exact h.out i hi
      · simp only [Act.put] at hi
        by_cases e : i = k
        · subst e
          rw [Array.getElem?_setIfInBounds_self_of_lt (by have := h.size; omega)] at hi
          cases hi
          unfold tmGet
          rw [Tr.get_set_self]; exact hv
        · rw [Array.getElem?_setIfInBounds_ne (Ne.symm e)] at hi
          have := h.get i y hi
          unfold tmGet at this ⊢
          rw [Tr.get_set_ne _ _ e]; exact this
    · cases hp
def Glo (G : Nat) (ρ : Rho) : Prop := ∀ g, g < G → ∃ c, ρ g = some (g, c)
theorem Glo.mono {G : Nat} {ρ ρ' : Rho} (hx : Ext ρ ρ') (h : Glo G ρ) : Glo G ρ' := fun g hg => by
  obtain ⟨c, hc⟩ := h g hg
  exact ⟨c, hx.1 _ _ hc⟩
theorem evO_rel {G : Nat} {ρ : Rho} {nt tm tmps} {dfs : List Deferred} (hg : Glo G ρ) (h : TmRel ρ nt tm tmps) : ∀ x v, evO G tm x = some v → RelV ρ v ((⟨tmps, dfs⟩ : Act).eval x) := fun x v e => by
  cases x with
  | tmp t =>
    have e : some (tmGet tm t) = some v := e
    cases e
    simp only [Act.eval]
    by_cases ht : t < tmps.size
    · have := h.get t tmps[t] (by simp [ht])
      simpa [Array.getD, ht] using this
    · have h1 : tm.get t = none := h.out t (Nat.le_of_not_lt ht)
      unfold tmGet
      rw [h1]
      simp only [Array.getD, ht, dif_neg, not_false_eq_true]
      exact undef_rel
  | const c => exact constV_rel e
  | global g =>
    have e : gloV G g = some v := e
    unfold gloV at e
    split at e
    · rename_i hb
      cases e
      obtain ⟨c, hc⟩ := hg g (blt_lt hb)
      rw [RelV]; exact ⟨g, c, hc, rfl⟩
    · cases e
  | func f =>
    have e : some (V.fn (.func f) [] []) = some v := e
    cases e
    rw [RelV]; exact ⟨[], [], rfl, .nil, .nil⟩
theorem wanted_rel {ρ : Rho} {nt tm tmps} (h : TmRel ρ nt tm tmps) (all : Array Oper) (o : Oper) : Region.wanted o (yielded all tmps) = wantedV all tm o.guard := by
  unfold Region.wanted wantedV
  cases o.guard with
  | none => rfl
  | some p =>
    obtain ⟨j, want⟩ := p
    simp only [yielded, guardV, Array.getElem?_toList]
    cases hj : all[j]? with
    | none => simp
    | some oj =>
      simp only [Option.bind_some]
      cases hd : oj.dst with
      | none => simp
      | some d =>
        simp only [Option.bind_some]
        cases ht : tm.get d with
        | none =>
          simp only
          cases hx : tmps[d]? with
          | none => simp
          | some x =>
            have := h.get d x hx
            unfold tmGet at this
            rw [ht, undefV, RelV] at this
            obtain ⟨xs, rfl, _⟩ := this
            simp
        | some v =>
          have hlt : d < tmps.size := by
            rcases Nat.lt_or_ge d tmps.size with h1 | h1
            · exact h1
            · rw [h.out d h1] at ht; cases ht
          have hx : tmps[d]? = some tmps[d] := by simp [hlt]
          have := h.get d _ hx
          unfold tmGet at this
          rw [ht] at this
          simp only at this
          rw [hx]
          cases v <;> simp only [RelV] at this <;> first
            | (rw [this]; simp)
            | (obtain ⟨_, _, _, hh⟩ := this; rw [hh]; simp; done)
            | (obtain ⟨_, _, _, hh, _⟩ := this; rw [hh]; simp; done)
            | (obtain ⟨_, _, hh, _⟩ := this; rw [hh]; simp; done)
            | (obtain ⟨_, hh, _⟩ := this; rw [hh]; simp; done)

def ItRel (ρ : Rho) : VI → Item → Prop
  | .code c, it => it = .code c
  | .blk id, it => it = .inBlock id
  | .lp c, it => it = .inLoop c
  | .sc c, it => it = .inScope c
  | .ops l all, it => ∃ k, it = .inRegion all (List.range' k l.length) ∧ l = all.toList.drop k
  | .rt, _ => False
  | .pn _, _ => False
  | .pd _, _ => False
  | .inR l, it => ∃ r c, ρ l = some (r, c) ∧ it = .inRangeFunc r
  | .enR l, it => ∃ r c, ρ l = some (r, c) ∧ it = .endRangeFunc r
  | .beR, it => it = .beginRound
  | .lst, _ => False
theorem ItRel.mono {ρ ρ' : Rho} (hx : Ext ρ ρ') {x it} (h : ItRel ρ x it) : ItRel ρ' x it := by
  cases x with
  | inR l => obtain ⟨r, c, h1, h2⟩ := h; exact ⟨r, c, hx.1 _ _ h1, h2⟩
  | enR l => obtain ⟨r, c, h1, h2⟩ := h; exact ⟨r, c, hx.1 _ _ h1, h2⟩
  | _ => exact h
def ItsRel (ρ : Rho) : List VI → List Item → Prop
  | [], its => its = []
  | .lst :: _, its => its = []
  | x :: xs, its => ∃ y ys, its = y :: ys ∧ ItRel ρ x y ∧ ItsRel ρ xs ys
theorem ItsRel.mono {ρ ρ' : Rho} (hx : Ext ρ ρ') : ∀ {k its}, ItsRel ρ k its → ItsRel ρ' k its
  | [], _, h => h
  | x :: k, its, h => by
    cases x with
    | lst => exact h
    | _ => obtain ⟨y, ys, h1, h2, h3⟩ := h; exact ⟨y, ys, h1, h2.mono hx, ItsRel.mono hx h3⟩
def DfRel (ρ : Rho) : List VD → List Deferred → Prop
  | [], ds => ds = []
  | .call f ca as :: xs, ds => ∃ ca' as' ys, ds = { target := .fn (.func f) (List.toArray ca'), args := List.toArray as' } :: ys ∧ RelL ρ ca ca' ∧ RelL ρ as as' ∧ DfRel ρ xs ys
  | .coll b :: xs, ds => ∃ r c ys, ρ b = some (r, c) ∧ ds = { target := .collected r, args := #[] } :: ys ∧ DfRel ρ xs ys
theorem DfRel.mono {ρ ρ' : Rho} (hx : Ext ρ ρ') : ∀ {xs ds}, DfRel ρ xs ds → DfRel ρ' xs ds
  | [], _, h => h
  | .call _ _ _ :: xs, _, h => by obtain ⟨ca, as, ys, h1, h2, h3, h4⟩ := h; exact ⟨ca, as, ys, h1, RelL.mono hx _ _ h2, RelL.mono hx _ _ h3, DfRel.mono hx h4⟩
  | .coll _ :: xs, _, h => by obtain ⟨r, c, ys, h1, h2, h3⟩ := h; exact ⟨r, c, ys, hx.1 _ _ h1, h2, DfRel.mono hx h3⟩
def KV.real : KV → CallKind
  | .deferred => .deferred
  | _ => .normal
def RoRel (ρ : Rho) : KV → Option Nat → Prop
  | .rnd l, ro => ∃ r c, ρ l = some (r, c) ∧ ro = some r
  | _, ro => ro = none
theorem RoRel.mono {ρ ρ' : Rho} (hx : Ext ρ ρ') {k ro} (h : RoRel ρ k ro) : RoRel ρ' k ro := by
  cases k with
  | rnd l => obtain ⟨r, c, h1, h2⟩ := h; exact ⟨r, c, hx.1 _ _ h1, h2⟩
  | _ => exact h
/-- What of the program's frame seldom changes. -/
structure BsRel (ρ : Rho) (g : FuncId) (kd : KV) (b : Frame) : Prop where
  fn : b.fn = g
  kind : b.kind = kd.real
  ro : RoRel ρ kd b.roundOf
theorem BsRel.mono {ρ ρ' : Rho} (hx : Ext ρ ρ') {fn kind b} (h : BsRel ρ fn kind b) : BsRel ρ' fn kind b := ⟨h.fn, h.kind, h.ro.mono hx⟩
theorem BsRel.none {ρ : Rho} {fn kind b} (h : BsRel ρ fn kind b) (hk : isRnd kind = false) : b.roundOf = none := by
  have := h.ro
  cases kind with
  | rnd l => cases hk
  | _ => exact this
def FrRel (ρ : Rho) (x : Fr) (fr : Frame) : Prop :=
  ∃ b tmps dfs, BsRel ρ x.r.fn x.r.kind b ∧ TmRel ρ x.r.nt x.tm tmps ∧ DfRel ρ x.r.df dfs ∧
    ((x.todo = [.rt] ∧ ∃ its, bif isRnd x.r.kind then fr = b.atR ⟨tmps, dfs⟩ (.code .ret :: its) else fr = { b.atR ⟨tmps, dfs⟩ its with mode := .returning }) ∨
     (∃ its, ItsRel ρ x.todo its ∧ fr = b.atR ⟨tmps, dfs⟩ its) ∨
     (∃ v y its, x.todo = [.pn v] ∧ RelV ρ v y ∧ fr = { b.atR ⟨tmps, dfs⟩ its with mode := .panicking [{ v := y, recovered := false }] }) ∨
     (∃ v y its, x.todo = [.pd v] ∧ RelV ρ v y ∧ fr = { b.atR ⟨tmps, dfs⟩ its with mode := .panicking [{ v := y, recovered := true }] }))
theorem FrRel.mono {ρ ρ' : Rho} (hx : Ext ρ ρ') {x fr} (h : FrRel ρ x fr) : FrRel ρ' x fr := by
  obtain ⟨b, tmps, dfs, h0, h1, h2, h3⟩ := h
  refine ⟨b, tmps, dfs, h0.mono hx, h1.mono hx, h2.mono hx, ?_⟩
  rcases h3 with h3 | ⟨its, h3, h4⟩ | ⟨v, y, its, h3, h4, h5⟩ | ⟨v, y, its, h3, h4, h5⟩
  · exact .inl h3
  · exact .inr (.inl ⟨its, h3.mono hx, h4⟩)
  · exact .inr (.inr (.inl ⟨v, y, its, h3, RelV.mono hx _ _ h4, h5⟩))
  · exact .inr (.inr (.inr ⟨v, y, its, h3, RelV.mono hx _ _ h4, h5⟩))
def bs (f : FuncId) (kind : CallKind) : Frame := { (default : Frame) with fn := f, kind := kind, roundOf := none }
def FsRel (ρ : Rho) : List Fr → List Frame → Prop
  | [], frs => frs = []
  | x :: xs, frs => ∃ y ys, frs = y :: ys ∧ FrRel ρ x y ∧ FsRel ρ xs ys
theorem FsRel.mono {ρ ρ' : Rho} (hx : Ext ρ ρ') : ∀ {xs frs}, FsRel ρ xs frs → FsRel ρ' xs frs
  | [], _, h => h
  | x :: xs, _, h => by obtain ⟨y, ys, h1, h2, h3⟩ := h; exact ⟨y, ys, h1, h2.mono hx, FsRel.mono hx h3⟩
def bot : RF → List Fr → FuncId
  | r, [] => r.fn
  | _, x :: xs => bot x.r xs

/-! what is asked of the tables -/
structure EnvOk (E : Env) : Prop where
  ng : ∀ (f : FuncId) (fn : Func), E.P.funcs[f]? = some fn → (fn.name == "runtime.NumGoroutine") = false
  ext : ∀ g e as m v m', E.T.ext g = some e → e as m = some (v, m') → ∀ F w0 ρ w xs, RM F w0 ρ m w → RelL ρ as xs →
    ∃ ρ' x w', Ext ρ ρ' ∧ (callFunc g (List.toArray xs)).run E.P w = .ok (.value x) w' ∧ RelV ρ' v x ∧ RM F w0 ρ' m' w'
  sum : ∀ g e as m v m', E.T.sum g = some e → e as m = some (v, m') → (∃ fn c, E.P.funcs[g]? = some fn ∧ fn.body = some c) ∧ ∀ F w0 ρ w xs, RM F w0 ρ m w → Glo E.T.g ρ → RelL ρ as xs →
    Calls E.P g (List.toArray xs) w fun e w' => ∃ ρ' x, e = .returned x ∧ Ext ρ ρ' ∧ RelV ρ' v x ∧ RM F w0 ρ' m' w'
  draw : ∀ ops nt tm m tm' m', E.draw ops nt tm m = some (tm', m') → ∀ F w0 ρ w tmps dfs id (b : Frame) k cs, RM F w0 ρ m w → Glo E.T.g ρ → TmRel ρ nt tm tmps →
    ∃ ρ' w' tmps', Ext ρ ρ' ∧ TmRel ρ' nt tm' tmps' ∧ RM F w0 ρ' m' w' ∧ Steps E.P (lone (b.atR ⟨tmps, dfs⟩ (.code (.region id ops true) :: k)) cs w) (lone (b.atR ⟨tmps', dfs⟩ k) cs w')

structure SRel (E : Env) (F : Fx) (w0 : World) (ρ : Rho) (tm : Tr V) (todo : List VI) (r : RF) (fs : List Fr) (m : Mem) (fr : Frame) (frs : List Frame) (w : World) (f : FuncId) : Prop where
  hrm : RM F w0 ρ m w
  hglo : Glo E.T.g ρ
  hfr : FrRel ρ ⟨tm, todo, r⟩ fr
  hfs : FsRel ρ fs frs
  hbot : bot r fs = f
def Res (E : Env) (F : Fx) (w0 : World) (ρ : Rho) (v : V) (m' : Mem) (f : FuncId) (cs : List Frame) (M : Machine) : Prop :=
  ∃ ρ' x w' fr', Ext ρ ρ' ∧ RelV ρ' v x ∧ RM F w0 ρ' m' w' ∧ Steps E.P M (lone fr' cs w') ∧ fr'.leaving E.P w' (.returned x) ∧ fr'.fn = f
theorem Res.step {E F w0 ρ ρ1 v m' f cs M M1} (hx : Ext ρ ρ1) (hs : Steps E.P M M1) (h : Res E F w0 ρ1 v m' f cs M1) : Res E F w0 ρ v m' f cs M := by
  obtain ⟨ρ', x, w', fr', h1, h2, h3, h4, h5, h6⟩ := h
  exact ⟨ρ', x, w', fr', hx.trans h1, h2, h3, hs.trans h4, h5, h6⟩
def GoOk (E : Env) (go : Go) (v : V) (m' : Mem) : Prop :=
  ∀ tm todo r fs m, go tm todo r fs m = some (v, m') → ∀ F w0 ρ w fr frs f cs, SRel E F w0 ρ tm todo r fs m fr frs w f → Res E F w0 ρ v m' f cs (lone fr (frs ++ cs) w)

/-! single steps of the program -/
section
variable {P : Program} {b : Frame} {a : Act} {k : List Item} {cs : List Frame} {w : World} {ops : Array Oper} {i : Nat} {rest : List Nat} {o : Oper}
theorem fin_at (ho : ops[i]? = some o) (v : Value) : (b.atR a (.inRegion ops (i :: rest) :: k)).finish v = b.atR (a.put o.dst v) (.inRegion ops rest :: k) := by
  rw [Frame.finish_atR, ho]; rfl
theorem todo_apply (v : Option Value) : (match (b.atR a (.inRegion ops (i :: rest) :: k)).todo with | .call _ true _ _ :: _ => CallKind.wrapped | _ => .normal) = .normal := rfl
theorem st_value (ho : ops[i]? = some o) (hw : Region.wanted o (yielded ops a.tmps) = true) (hnd : ∀ c, o.op ≠ .defer c) {v : Value} {w' : World} (hr : (execOp a.eval o).run P w = .ok (.value v) w') :
    step P (lone (b.atR a (.inRegion ops (i :: rest) :: k)) cs w) = .next (lone (b.atR (a.put o.dst v) (.inRegion ops rest :: k)) cs w') :=
  step_lone_go (by rw [stepGR_op ho hw, Oper.semAt_eq _ _ _ hnd, ← fin_at ho]; simp [stepG.apply, hr])
theorem st_skip (ho : ops[i]? = some o) (hw : Region.wanted o (yielded ops a.tmps) = true) (hnd : ∀ c, o.op ≠ .defer c) {w' : World} (hr : (execOp a.eval o).run P w = .ok .skip w') :
    step P (lone (b.atR a (.inRegion ops (i :: rest) :: k)) cs w) = .next (lone (b.atR (a.put o.dst undef) (.inRegion ops rest :: k)) cs w') :=
  step_lone_go (by rw [stepGR_op ho hw, Oper.semAt_eq _ _ _ hnd, ← fin_at ho]; simp [stepG.apply, hr])
theorem st_unwanted (ho : ops[i]? = some o) (hw : Region.wanted o (yielded ops a.tmps) = false) :
    step P (lone (b.atR a (.inRegion ops (i :: rest) :: k)) cs w) = .next (lone (b.atR (a.put o.dst undef) (.inRegion ops rest :: k)) cs w) := by
  have := stepR_op_skip (P := P) (b := b) (a := a) (k := k) (cs := cs) (w := w) (ops := ops) (i := i) (rest := rest) (by simp [ho, hw])
  simpa [ho] using this
theorem st_defer (hb : b.roundOf = none) (ho : ops[i]? = some o) (hw : Region.wanted o (yielded ops a.tmps) = true) {d : Deferred} {w' : World} (hr : (execOp a.eval o).run P w = .ok (.defer d) w') :
    step P (lone (b.atR a (.inRegion ops (i :: rest) :: k)) cs w) = .next (lone (b.atR ({ a with defers := d :: a.defers }.put o.dst undef) (.inRegion ops rest :: k)) cs w') := by
  refine step_lone_go ?_
  have : ({ b.atR a (.inRegion ops (i :: rest) :: k) with defers := d :: a.defers } : Frame).finish undef =
      b.atR ({ a with defers := d :: a.defers }.put o.dst undef) (.inRegion ops rest :: k) := by
    have := Frame.finish_atR b { a with defers := d :: a.defers } ops i rest k undef
    rw [ho] at this; exact this
  rw [stepGR_op ho hw, hb, Oper.semAt_none]; simp only [stepG.apply, Sem.runT_eq, hr, GStep.bare_after]
  exact congrArg (fun fr => GStep.go { frame := fr, callers := cs, status := .running, dying := none } w') this
theorem st_enter (ho : ops[i]? = some o) (hw : Region.wanted o (yielded ops a.tmps) = true) (hnd : ∀ c, o.op ≠ .defer c) {f : FuncId} {args : Array Value} {w' : World} (hr : (execOp a.eval o).run P w = .ok (.enter f args) w') :
    step P (lone (b.atR a (.inRegion ops (i :: rest) :: k)) cs w) = .next (lone (Frame.enter P f args .normal) (b.atR a (.inRegion ops (i :: rest) :: k) :: cs) w') :=
  step_lone_go (by rw [stepGR_op ho hw, Oper.semAt_eq _ _ _ hnd]; simp [stepG.apply, hr, Frame.atR])
theorem st_round (ho : ops[i]? = some o) (hw : Region.wanted o (yielded ops a.tmps) = true) (hnd : ∀ c, o.op ≠ .defer c) {l : Nat} {f : FuncId} {tmps : Array Value} {ac bd : Code} {w' : World} (hr : (execOp a.eval o).run P w = .ok (.round l f tmps ac bd) w') :
    step P (lone (b.atR a (.inRegion ops (i :: rest) :: k)) cs w) = .next (lone (Frame.round l f tmps ac bd .normal) (b.atR a (.inRegion ops (i :: rest) :: k) :: cs) w') :=
  step_lone_go (by rw [stepGR_op ho hw, Oper.semAt_eq _ _ _ hnd]; simp [stepG.apply, hr, Frame.atR])
theorem st_panic (ho : ops[i]? = some o) (hw : Region.wanted o (yielded ops a.tmps) = true) (hnd : ∀ c, o.op ≠ .defer c) {v : Value} {w' : World} (hr : (execOp a.eval o).run P w = .halt (.panic v) w') :
    step P (lone (b.atR a (.inRegion ops (i :: rest) :: k)) cs w) = .next (lone { b.atR a (.inRegion ops (i :: rest) :: k) with mode := .panicking [{ v, recovered := false }] } cs w') :=
  step_lone_go (by rw [stepGR_op ho hw, Oper.semAt_eq _ _ _ hnd]; simp [stepG.apply, hr, Frame.atR, Frame.raise])
theorem st_recover (hb : b.roundOf = none) (ho : ops[i]? = some o) (hw : Region.wanted o (yielded ops a.tmps) = true) (hnd : ∀ c, o.op ≠ .defer c) {w' : World} (hr : (execOp a.eval o).run P w = .ok .recover w') {v : Value} {cs' : List Frame}
    (ht : (match tryRecover (b.atR a (.inRegion ops (i :: rest) :: k)) cs with | some p => p | none => (.nilIface, cs)) = (v, cs')) :
    step P (lone (b.atR a (.inRegion ops (i :: rest) :: k)) cs w) = .next (lone (b.atR (a.put o.dst v) (.inRegion ops rest :: k)) cs' w') := by
  refine step_lone_go ?_
  rw [stepGR_op ho hw, Oper.semAt_eq _ _ _ hnd, ← fin_at ho]
  have e : (b.atR a (.inRegion ops (i :: rest) :: k)).roundOf = none := hb
  simp only [stepG.apply, Sem.runT_eq, hr, GStep.bare_after, e]
  cases hh : tryRecover (b.atR a (.inRegion ops (i :: rest) :: k)) cs with
  | none => rw [hh] at ht; cases ht; rfl
  | some p => obtain ⟨v1, cs1⟩ := p; rw [hh] at ht; cases ht; rfl
end
theorem range'_cons {o : Oper} {l : List Oper} {all : Array Oper} {k : Nat} (h : o :: l = all.toList.drop k) : all[k]? = some o ∧ l = all.toList.drop (k + 1) ∧ List.range' k (o :: l).length = k :: List.range' (k + 1) l.length := by
  refine ⟨?_, ?_, by simp [List.range'_succ]⟩
  · have : (all.toList.drop k)[0]? = some o := by rw [← h]; rfl
    simpa using this
  · have : (all.toList.drop k).drop 1 = l := by rw [← h]; rfl
    rw [← this, List.drop_drop]
theorem run_callFunc_body {P : Program} {g : FuncId} {fn : Func} {c : Code} {xs : Array Value} {w : World} (hf : P.funcs[g]? = some fn) (hb : fn.body = some c) (hn : (fn.name == "runtime.NumGoroutine") = false) :
    (callFunc g xs).run P w = .ok (.enter g xs) w := by
  have h1 : fn.name ≠ "runtime.NumGoroutine" := by simpa using hn
  simp [callFunc, hf, h1, hb]
theorem callee_rel {ρ : Rho} {ev : Operand → Option V} {rr : Operand → Value} (hev : ∀ x v, ev x = some v → RelV ρ v (rr x)) {c : Call} {g as ca} (h : calleeV c.callee c.args ev = some (g, as, ca)) :
    ∃ xs ys : List Value, RelL ρ as xs ∧ RelL ρ ca ys ∧ ∀ (P : Program) (ty : TypeId) (w : World), (resolve rr c ty).run P w = .ok { target := .fn (.func g) ys.toArray, args := xs.toArray } w := by
  obtain ⟨cl, args, ats⟩ := c
  cases cl with
  | value f =>
    have h : calleeF (ev f) (mapO ev args.toList) = some (g, as, ca) := h
    unfold calleeF at h
    split at h
    · rename_i g' fi ca' as' h1 h2
      cases h
      have hf := hev _ _ h1
      rw [RelV] at hf
      obtain ⟨xs, ys, e1, e2, e3⟩ := hf
      have ha := mapO_rel2 hev _ _ h2
      refine ⟨xs ++ args.toList.map rr, ys, e2.append ha, e3, fun P ty w => ?_⟩
      simp only [resolve, e1, Deferred.ofValue, Sem.run_pure]
      congr 2
      apply Array.ext'; simp
    · cases h
  | _ => cases h
theorem enter_at {P : Program} {g : FuncId} {fn : Func} {c : Code} {xs : Array Value} (kind : CallKind) (hf : P.funcs[g]? = some fn) (hb : fn.body = some c) :
    Frame.enter P g xs kind = (bs g kind).atR ⟨xs ++ Array.replicate (fn.ntmps - xs.size) undef, []⟩ [.code c] := by
  simp [Frame.enter, Frame.atR, hf, hb, bs]
theorem round_at {l : Nat} {f : FuncId} {tmps : Array Value} {ac bd : Code} :
    Frame.round l f tmps ac bd .normal = ({ bs f .normal with roundOf := some l } : Frame).atR ⟨tmps, []⟩ [.code ac, .beginRound, .code bd] := by
  simp [Frame.round, Frame.atR, bs]
theorem bs_rel {ρ : Rho} {f : FuncId} {kind : KV} (hk : isRnd kind = false) : BsRel ρ f kind (bs f kind.real) := ⟨rfl, rfl, by cases kind <;> first | rfl | cases hk⟩
theorem tm_enter {ρ : Rho} {as : List V} {xs : List Value} {n : Nat} (h : RelL ρ as xs) (hn : as.length ≤ n) : TmRel ρ n (Tr.fill as 0 .nil) (xs.toArray ++ Array.replicate (n - xs.toArray.size) undef) := by
  have hl := h.length
  refine ⟨by simp; omega, fun i hi => ?_, fun i x hi => ?_⟩
  · rw [Tr.get_fill, if_neg (by simp at hi; omega), Tr.get_nil]
  · unfold tmGet
    rw [Tr.get_fill]
    by_cases hi2 : i < as.length
    · rw [if_pos (by omega), Nat.sub_zero, List.getElem?_eq_getElem hi2]
      obtain ⟨y, h1, h2⟩ := h.get (List.getElem?_eq_getElem hi2)
      rw [Array.getElem?_append_left (by simpa using (by omega : i < xs.length))] at hi
      rw [List.getElem?_toArray, h1] at hi
      cases hi; exact h2
    · rw [if_neg (by omega), Tr.get_nil]
      rw [Array.getElem?_append_right (by simp; omega), Array.getElem?_replicate] at hi
      split at hi
      · cases hi; exact undef_rel
      · cases hi
theorem exit_rel {ρ : Rho} {id : Nat} : ∀ {k : List VI} {its : List Item}, ItsRel ρ k its → (∀ k', exitV id k = some k' → ∃ its', exitTo id its = some its' ∧ ItsRel ρ k' its') ∧ (exitV id k = none → exitTo id its = none)
  | [], its, h => by have h : its = [] := h; subst h; exact ⟨(fun _ h => by cases h), fun _ => rfl⟩
  | x :: k, its, hi => by
    cases x with
    | lst => have h : its = [] := hi; subst h; exact ⟨(fun _ h => by cases h), fun _ => rfl⟩
    | blk id' =>
      obtain ⟨y, ys, rfl, h1, h2⟩ := hi
      have h1 : y = .inBlock id' := h1
      subst h1
      have ih := exit_rel (id := id) h2
      cases hb : Nat.beq id' id with
      | true =>
        have hb' := Nat.eq_of_beq_eq_true hb
        refine ⟨fun k' h => ?_, fun h => ?_⟩
        · simp only [exitV, hb] at h; cases h
          exact ⟨ys, by simp [exitTo, hb'], h2⟩
        · simp only [exitV, hb] at h; cases h
      | false =>
        have hb' : ¬ id' = id := fun e => by subst e; simp at hb
        refine ⟨fun k' h => ?_, fun h => ?_⟩
        · simp only [exitV, hb] at h
          obtain ⟨its', h3, h4⟩ := ih.1 _ h
          exact ⟨its', by simp [exitTo, hb', h3], h4⟩
        · simp only [exitV, hb] at h
          simp [exitTo, hb', ih.2 h]
    | code c => obtain ⟨y, ys, rfl, h1, h2⟩ := hi; have h1 : y = _ := h1; subst h1; have ih := exit_rel (id := id) h2; exact ih
    | lp c => obtain ⟨y, ys, rfl, h1, h2⟩ := hi; have h1 : y = _ := h1; subst h1; have ih := exit_rel (id := id) h2; exact ih
    | sc c => obtain ⟨y, ys, rfl, h1, h2⟩ := hi; have h1 : y = _ := h1; subst h1; have ih := exit_rel (id := id) h2; exact ih
    | ops l all => obtain ⟨y, ys, rfl, ⟨kk, h1, _⟩, h2⟩ := hi; subst h1; have ih := exit_rel (id := id) h2; exact ih
    | inR l => obtain ⟨y, ys, rfl, ⟨r, c, _, h1⟩, h2⟩ := hi; subst h1; have ih := exit_rel (id := id) h2; exact ih
    | enR l => obtain ⟨y, ys, rfl, ⟨r, c, _, h1⟩, h2⟩ := hi; subst h1; have ih := exit_rel (id := id) h2; exact ih
    | beR => obtain ⟨y, ys, rfl, h1, h2⟩ := hi; have h1 : y = _ := h1; subst h1; have ih := exit_rel (id := id) h2; exact ih
    | rt => obtain ⟨y, ys, rfl, h1, h2⟩ := hi; exact h1.elim
    | pn v => obtain ⟨y, ys, rfl, h1, h2⟩ := hi; exact h1.elim
    | pd v => obtain ⟨y, ys, rfl, h1, h2⟩ := hi; exact h1.elim
def resF (tmps : Array Value) : ResultVar → Sem Value
  | .tmp t => pure (tmps.getD t undef)
  | .cell a t => do loadVar t (← asAddr (tmps.getD a undef))
theorem res_rel {P : Program} {F w0 ρ m w} {nt tm tmps} (hm : RM F w0 ρ m w) (h : TmRel ρ nt tm tmps) : ∀ (rs : List ResultVar) (vs : List V), resV P tm m rs = some vs →
    ∃ xs, RelL ρ vs xs ∧ (rs.mapM (resF tmps)).run P w = .ok xs w
  | [], vs, e => by rw [resV] at e; cases e; exact ⟨[], .nil, by simp⟩
  | .tmp t :: rs, vs, e => by
    rw [resV] at e
    split at e
    · rename_i vs' hvs
      cases e
      obtain ⟨xs, h1, h2⟩ := res_rel hm h rs vs' hvs
      have := evO_rel (G := 0) (dfs := []) (fun g hg => absurd hg (by omega)) h (.tmp t) (tmGet tm t) rfl
      refine ⟨_ :: xs, .cons this h1, ?_⟩
      rw [List.mapM_cons]
      simp only [resF, Sem.run_bind, Sem.run_pure, Result.andThen_ok, h2]
      rfl
    · cases e
  | .cell a t :: rs, vs, e => by
    rw [resV] at e
    split at e
    · cases e
    · rename_i v hv
      split at e
      · rename_i vs' hvs
        cases e
        obtain ⟨xs, h1, h2⟩ := res_rel hm h rs vs' hvs
        have hr := evO_rel (G := 0) (dfs := []) (fun g hg => absurd hg (by omega)) h (.tmp a) (tmGet tm a) rfl
        obtain ⟨y, h3, h4⟩ := load_ok (P := P) hm hr hv
        refine ⟨y :: xs, .cons h4 h1, ?_⟩
        have hp : ∃ ad, (⟨tmps, []⟩ : Act).eval (.tmp a) = .pointer (some ad) := by
          unfold loadV at hv
          split at hv
          · rename_i b o heq
            rw [heq, RelV] at hr
            obtain ⟨r, c, _, hh⟩ := hr
            exact ⟨_, hh⟩
          · rename_i b o heq
            rw [heq, RelV] at hr
            obtain ⟨r, c, _, hh, _⟩ := hr
            exact ⟨_, hh⟩
          · cases hv
        obtain ⟨ad, hp⟩ := hp
        rw [hp] at h3
        have hp' : tmps.getD a undef = .pointer (some ad) := hp
        simp only [Instr.loadAt, Instr.sureAddr, Sem.run_bind, Sem.run_pure, Result.andThen_ok] at h3
        rw [List.mapM_cons]
        simp only [resF, hp', asAddr, Sem.run_bind, Sem.run_pure, Result.andThen_ok, h3, h2]
      · cases e
theorem resultV_rel {ρ : Rho} {vs : List V} {xs : List Value} (h : RelL ρ vs xs) : RelV ρ (resultV vs) (if h : xs.toArray.size = 1 then xs.toArray[0] else .tuple xs.toArray) := by
  cases vs with
  | nil => rw [RelL] at h; subst h; simp only [resultV]; rw [dif_neg (by simp), RelV]; exact ⟨[], rfl, .nil⟩
  | cons v vs =>
    have h0 := h
    rw [RelL] at h
    obtain ⟨x, ys, rfl, h1, h2⟩ := h
    cases vs with
    | nil => rw [RelL] at h2; subst h2; simpa [resultV] using h1
    | cons v' vs' =>
      have := h2.length
      simp only [resultV]
      rw [dif_neg (by rw [List.size_toArray, List.length_cons, ← this, List.length_cons]; omega), RelV]
      exact ⟨_, rfl, h0⟩
theorem resOf_rel {P : Program} {F w0 ρ m w} {nt tm tmps} {f : FuncId} {v : V} (hm : RM F w0 ρ m w) (h : TmRel ρ nt tm tmps) (he : resOf P f tm m = some v) :
    ∃ fn x, P.funcs[f]? = some fn ∧ (results fn tmps).run P w = .ok x w ∧ RelV ρ v x := by
  unfold resOf at he
  split at he
  · cases he
  · rename_i fn hf
    split at he
    · cases he
    · rename_i vs hvs
      cases he
      obtain ⟨xs, h1, h2⟩ := res_rel (P := P) hm h _ _ hvs
      refine ⟨fn, _, hf, ?_, resultV_rel h1⟩
      have hres : results fn tmps = (do
          let vs ← fn.results.mapM (resF tmps)
          pure (if h : vs.size = 1 then vs[0] else .tuple vs)) := by
        unfold results
        congr 1
      rw [hres, Sem.run_bind, ← Array.toArray_toList (xs := fn.results), List.mapM_toArray]
      simp only [Sem.run_map, h2, Result.andThen_ok, Sem.run_pure]
end Go.CE
