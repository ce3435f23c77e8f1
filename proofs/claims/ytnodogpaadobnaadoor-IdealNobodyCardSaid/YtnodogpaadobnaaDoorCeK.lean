/-
  CLOSED EVALUATION, 11: what the machine of frames reckons is what the program does.
-/
import Derived.Test.YtnodogpaadobnaaDoorCeJ
noncomputable section
namespace Go.CE
open Go
set_option linter.unusedSimpArgs false
set_option linter.unusedVariables false

/-! frames -/
structure TmRel (ρ : Rho) (nt : Nat) (tm : Tr V) (tmps : Array Value) : Prop where
  size : tmps.size = nt
  out : ∀ i, tmps.size ≤ i → tm.get i = none
  get : ∀ i x, tmps[i]? = some x → RelV ρ (tmGet tm i) x
theorem TmRel.mono {ρ ρ' : Rho} (hx : Ext ρ ρ') {nt tm tmps} (h : TmRel ρ nt tm tmps) : TmRel ρ' nt tm tmps := ⟨h.size, h.out, fun i x hi => RelV.mono hx _ _ (h.get i x hi)⟩
theorem TmRel.put {ρ : Rho} {nt tm tmps d v x tm'} {dfs : List Deferred} (h : TmRel ρ nt tm tmps) (hv : RelV ρ v x) (hp : putTm nt tm d v = some tm') : TmRel ρ nt tm' ((⟨tmps, dfs⟩ : Act).put d x).tmps ∧ ((⟨tmps, dfs⟩ : Act).put d x).defers = dfs := by
  unfold putTm at hp
  split at hp
  · cases hp; exact ⟨h, rfl⟩
  · rename_i k
    split at hp
    · rename_i hk
      have hk := blt_lt hk
      cases hp
      refine ⟨⟨by simpa [Act.put] using h.size, fun i hi => ?_, fun i y hi => ?_⟩, rfl⟩
      · simp only [Act.put, Array.size_setIfInBounds] at hi
        have := h.size
        rw [Tr.get_set_ne _ _ (by omega)]; exact h.out i hi
      · simp only [Act.put] at hi
        by_cases e : i = k
        · subst e
          rw [Array.getElem?_setIfInBounds_self_of_lt (by have := h.size; omega)] at hi
          cases hi
          unfold tmGet
          rw [Tr.get_set_self]; exact hv
        · rw [Array.getElem?_setIfInBounds_ne (Ne.symm e)] at hi
          have := h.get i y hi
          unfold tmGet at this ⊢
          rw [Tr.get_set_ne _ _ e]; exact this
    · cases hp
def Glo (G : Nat) (ρ : Rho) : Prop := ∀ g, g < G → ∃ c, ρ g = some (g, c)
theorem Glo.mono {G : Nat} {ρ ρ' : Rho} (hx : Ext ρ ρ') (h : Glo G ρ) : Glo G ρ' := fun g hg => by
  obtain ⟨c, hc⟩ := h g hg
  exact ⟨c, hx.1 _ _ hc⟩
theorem evO_rel {G : Nat} {ρ : Rho} {nt tm tmps} {dfs : List Deferred} (hg : Glo G ρ) (h : TmRel ρ nt tm tmps) : ∀ x v, evO G tm x = some v → RelV ρ v ((⟨tmps, dfs⟩ : Act).eval x) := fun x v e => by
  cases x with
  | tmp t =>
    have e : some (tmGet tm t) = some v := e
    cases e
    simp only [Act.eval]
    by_cases ht : t < tmps.size
    · have := h.get t tmps[t] (by simp [ht])
      simpa [Array.getD, ht] using this
    · have h1 : tm.get t = none := h.out t (Nat.le_of_not_lt ht)
      unfold tmGet
      rw [h1]
      simp only [Array.getD, ht, dif_neg, not_false_eq_true]
      exact undef_rel
  | const c => exact constV_rel e
  | global g =>
    have e : gloV G g = some v := e
    unfold gloV at e
    split at e
    · rename_i hb
      cases e
      obtain ⟨c, hc⟩ := hg g (blt_lt hb)
      rw [RelV]; exact ⟨g, c, hc, rfl⟩
    · cases e
  | func f =>
    have e : some (V.fn (.func f) [] []) = some v := e
    cases e
    rw [RelV]; exact ⟨[], [], rfl, .nil, .nil⟩
theorem wanted_rel {ρ : Rho} {nt tm tmps} (h : TmRel ρ nt tm tmps) (all : Array Oper) (o : Oper) : Region.wanted o (yielded all tmps) = wantedV all tm o.guard := by
  unfold Region.wanted wantedV
  cases o.guard with
  | none => rfl
  | some p =>
    obtain ⟨j, want⟩ := p
    simp only [yielded, guardV, Array.getElem?_toList]
    cases hj : all[j]? with
    | none => simp
    | some oj =>
      simp only [Option.bind_some]
      cases hd : oj.dst with
      | none => simp
      | some d =>
        simp only [Option.bind_some]
        cases ht : tm.get d with
        | none =>
          simp only
          cases hx : tmps[d]? with
          | none => simp
          | some x =>
            have := h.get d x hx
            unfold tmGet at this
            rw [ht, undefV, RelV] at this
            obtain ⟨xs, rfl, _⟩ := this
            simp
        | some v =>
          have hlt : d < tmps.size := by
            rcases Nat.lt_or_ge d tmps.size with h1 | h1
            · exact h1
            · rw [h.out d h1] at ht; cases ht
          have hx : tmps[d]? = some tmps[d] := by simp [hlt]
          have := h.get d _ hx
          unfold tmGet at this
          rw [ht] at this
          simp only at this
          rw [hx]
          cases v <;> simp only [RelV] at this <;> first
            | (rw [this]; simp)
            | (obtain ⟨_, _, _, hh⟩ := this; rw [hh]; simp; done)
            | (obtain ⟨_, _, _, hh, _⟩ := this; rw [hh]; simp; done)
            | (obtain ⟨_, _, hh, _⟩ := this; rw [hh]; simp; done)
            | (obtain ⟨_, hh, _⟩ := this; rw [hh]; simp; done)

def ItRel : VI → Item → Prop
  | .code c, it => it = .code c
  | .blk id, it => it = .inBlock id
  | .lp c, it => it = .inLoop c
  | .sc c, it => it = .inScope c
  | .ops l all, it => ∃ k, it = .inRegion all (List.range' k l.length) ∧ l = all.toList.drop k
  | .rt, _ => False
def ItsRel : List VI → List Item → Prop
  | [], its => its = []
  | x :: xs, its => ∃ y ys, its = y :: ys ∧ ItRel x y ∧ ItsRel xs ys
def DfRel (ρ : Rho) : List VD → List Deferred → Prop
  | [], ds => ds = []
  | x :: xs, ds => ∃ ca as ys, ds = { target := .fn (.func x.f) (List.toArray ca), args := List.toArray as } :: ys ∧ RelL ρ x.ca ca ∧ RelL ρ x.as as ∧ DfRel ρ xs ys
theorem DfRel.mono {ρ ρ' : Rho} (hx : Ext ρ ρ') : ∀ {xs ds}, DfRel ρ xs ds → DfRel ρ' xs ds
  | [], _, h => h
  | x :: xs, _, h => by obtain ⟨ca, as, ys, h1, h2, h3, h4⟩ := h; exact ⟨ca, as, ys, h1, RelL.mono hx _ _ h2, RelL.mono hx _ _ h3, DfRel.mono hx h4⟩
def bs (r : RF) : Frame := { (default : Frame) with fn := r.fn, kind := r.kind }
def FrRel (ρ : Rho) (x : Fr) (fr : Frame) : Prop :=
  ∃ tmps dfs, TmRel ρ x.r.nt x.tm tmps ∧ DfRel ρ x.r.df dfs ∧
    ((x.todo = [.rt] ∧ ∃ its, fr = { (bs x.r).at ⟨tmps, dfs⟩ its with mode := .returning }) ∨ (∃ its, ItsRel x.todo its ∧ fr = (bs x.r).at ⟨tmps, dfs⟩ its))
theorem FrRel.mono {ρ ρ' : Rho} (hx : Ext ρ ρ') {x fr} (h : FrRel ρ x fr) : FrRel ρ' x fr := by
  obtain ⟨tmps, dfs, h1, h2, h3⟩ := h
  exact ⟨tmps, dfs, h1.mono hx, h2.mono hx, h3⟩
def FsRel (ρ : Rho) : List Fr → List Frame → Prop
  | [], frs => frs = []
  | x :: xs, frs => ∃ y ys, frs = y :: ys ∧ FrRel ρ x y ∧ FsRel ρ xs ys
theorem FsRel.mono {ρ ρ' : Rho} (hx : Ext ρ ρ') : ∀ {xs frs}, FsRel ρ xs frs → FsRel ρ' xs frs
  | [], _, h => h
  | x :: xs, _, h => by obtain ⟨y, ys, h1, h2, h3⟩ := h; exact ⟨y, ys, h1, h2.mono hx, FsRel.mono hx h3⟩
def bot : RF → List Fr → FuncId
  | r, [] => r.fn
  | _, x :: xs => bot x.r xs

/-! what is asked of the tables -/
structure EnvOk (E : Env) : Prop where
  ng : ∀ (f : FuncId) (fn : Func), E.P.funcs[f]? = some fn → (fn.name == "runtime.NumGoroutine") = false
  ext : ∀ g e as m v m', E.T.ext g = some e → e as m = some (v, m') → ∀ F w0 ρ w xs, RM F w0 ρ m w → RelL ρ as xs →
    ∃ ρ' x w', Ext ρ ρ' ∧ (callFunc g (List.toArray xs)).run E.P w = .ok (.value x) w' ∧ RelV ρ' v x ∧ RM F w0 ρ' m' w'
  sum : ∀ g e as m v m', E.T.sum g = some e → e as m = some (v, m') → (∃ fn c, E.P.funcs[g]? = some fn ∧ fn.body = some c) ∧ ∀ F w0 ρ w xs, RM F w0 ρ m w → Glo E.T.g ρ → RelL ρ as xs →
    Calls E.P g (List.toArray xs) w fun e w' => ∃ ρ' x, e = .returned x ∧ Ext ρ ρ' ∧ RelV ρ' v x ∧ RM F w0 ρ' m' w'
  draw : ∀ ops nt tm m tm' m', E.draw ops nt tm m = some (tm', m') → ∀ F w0 ρ w tmps dfs id (b : Frame) k cs, RM F w0 ρ m w → Glo E.T.g ρ → TmRel ρ nt tm tmps →
    ∃ ρ' w' tmps', Ext ρ ρ' ∧ TmRel ρ' nt tm' tmps' ∧ RM F w0 ρ' m' w' ∧ Steps E.P (lone (b.at ⟨tmps, dfs⟩ (.code (.region id ops true) :: k)) cs w) (lone (b.at ⟨tmps', dfs⟩ k) cs w')

structure SRel (E : Env) (F : Fx) (w0 : World) (ρ : Rho) (tm : Tr V) (todo : List VI) (r : RF) (fs : List Fr) (m : Mem) (fr : Frame) (frs : List Frame) (w : World) (f : FuncId) : Prop where
  hrm : RM F w0 ρ m w
  hglo : Glo E.T.g ρ
  hfr : FrRel ρ ⟨tm, todo, r⟩ fr
  hfs : FsRel ρ fs frs
  hbot : bot r fs = f
def Res (E : Env) (F : Fx) (w0 : World) (ρ : Rho) (v : V) (m' : Mem) (f : FuncId) (cs : List Frame) (M : Machine) : Prop :=
  ∃ ρ' x w' fr', Ext ρ ρ' ∧ RelV ρ' v x ∧ RM F w0 ρ' m' w' ∧ Steps E.P M (lone fr' cs w') ∧ fr'.leaving E.P w' (.returned x) ∧ fr'.fn = f
theorem Res.step {E F w0 ρ ρ1 v m' f cs M M1} (hx : Ext ρ ρ1) (hs : Steps E.P M M1) (h : Res E F w0 ρ1 v m' f cs M1) : Res E F w0 ρ v m' f cs M := by
  obtain ⟨ρ', x, w', fr', h1, h2, h3, h4, h5, h6⟩ := h
  exact ⟨ρ', x, w', fr', hx.trans h1, h2, h3, hs.trans h4, h5, h6⟩
def GoOk (E : Env) (go : Go) (v : V) (m' : Mem) : Prop :=
  ∀ tm todo r fs m, go tm todo r fs m = some (v, m') → ∀ F w0 ρ w fr frs f cs, SRel E F w0 ρ tm todo r fs m fr frs w f → Res E F w0 ρ v m' f cs (lone fr (frs ++ cs) w)

/-! single steps of the program -/
section
variable {P : Program} {b : Frame} {a : Act} {k : List Item} {cs : List Frame} {w : World} {ops : Array Oper} {i : Nat} {rest : List Nat} {o : Oper}
theorem fin_at (ho : ops[i]? = some o) (v : Value) : (b.at a (.inRegion ops (i :: rest) :: k)).finish v = b.at (a.put o.dst v) (.inRegion ops rest :: k) := by
  rw [Frame.finish_at, ho]; rfl
theorem st_value (ho : ops[i]? = some o) (hw : Region.wanted o (yielded ops a.tmps) = true) {v : Value} {w' : World} (hr : (execOp a.eval o).run P w = .ok (.value v) w') :
    step P (lone (b.at a (.inRegion ops (i :: rest) :: k)) cs w) = .next (lone (b.at (a.put o.dst v) (.inRegion ops rest :: k)) cs w') :=
  step_lone_go (by rw [stepG_op ho hw, ← fin_at ho]; simp [stepG.apply, hr])
theorem st_skip (ho : ops[i]? = some o) (hw : Region.wanted o (yielded ops a.tmps) = true) {w' : World} (hr : (execOp a.eval o).run P w = .ok .skip w') :
    step P (lone (b.at a (.inRegion ops (i :: rest) :: k)) cs w) = .next (lone (b.at (a.put o.dst undef) (.inRegion ops rest :: k)) cs w') :=
  step_lone_go (by rw [stepG_op ho hw, ← fin_at ho]; simp [stepG.apply, hr])
theorem st_unwanted (ho : ops[i]? = some o) (hw : Region.wanted o (yielded ops a.tmps) = false) :
    step P (lone (b.at a (.inRegion ops (i :: rest) :: k)) cs w) = .next (lone (b.at (a.put o.dst undef) (.inRegion ops rest :: k)) cs w) := by
  have := step_op_skip (P := P) (b := b) (a := a) (k := k) (cs := cs) (w := w) (ops := ops) (i := i) (rest := rest) (by simp [ho, hw])
  simpa [ho] using this
theorem st_defer (ho : ops[i]? = some o) (hw : Region.wanted o (yielded ops a.tmps) = true) {d : Deferred} {w' : World} (hr : (execOp a.eval o).run P w = .ok (.defer d) w') :
    step P (lone (b.at a (.inRegion ops (i :: rest) :: k)) cs w) = .next (lone (b.at ({ a with defers := d :: a.defers }.put o.dst undef) (.inRegion ops rest :: k)) cs w') := by
  refine step_lone_go ?_
  have : ({ b.at a (.inRegion ops (i :: rest) :: k) with defers := d :: a.defers } : Frame).finish undef =
      b.at ({ a with defers := d :: a.defers }.put o.dst undef) (.inRegion ops rest :: k) := by
    have := Frame.finish_at b { a with defers := d :: a.defers } ops i rest k undef
    rw [ho] at this; exact this
  rw [stepG_op ho hw]; simp only [stepG.apply, Sem.runT_eq, hr, GStep.bare_after]
  exact congrArg (fun fr => GStep.go { frame := fr, callers := cs, status := .running, dying := none } w') this
theorem st_enter (ho : ops[i]? = some o) (hw : Region.wanted o (yielded ops a.tmps) = true) {f : FuncId} {args : Array Value} {w' : World} (hr : (execOp a.eval o).run P w = .ok (.enter f args) w') :
    step P (lone (b.at a (.inRegion ops (i :: rest) :: k)) cs w) = .next (lone (Frame.enter P f args .normal) (b.at a (.inRegion ops (i :: rest) :: k) :: cs) w') :=
  step_lone_go (by rw [stepG_op ho hw]; simp [stepG.apply, hr, Frame.at])
end
theorem range'_cons {o : Oper} {l : List Oper} {all : Array Oper} {k : Nat} (h : o :: l = all.toList.drop k) : all[k]? = some o ∧ l = all.toList.drop (k + 1) ∧ List.range' k (o :: l).length = k :: List.range' (k + 1) l.length := by
  refine ⟨?_, ?_, by simp [List.range'_succ]⟩
  · have : (all.toList.drop k)[0]? = some o := by rw [← h]; rfl
    simpa using this
  · have : (all.toList.drop k).drop 1 = l := by rw [← h]; rfl
    rw [← this, List.drop_drop]
theorem run_callFunc_body {P : Program} {g : FuncId} {fn : Func} {c : Code} {xs : Array Value} {w : World} (hf : P.funcs[g]? = some fn) (hb : fn.body = some c) (hn : (fn.name == "runtime.NumGoroutine") = false) :
    (callFunc g xs).run P w = .ok (.enter g xs) w := by
  have h1 : fn.name ≠ "runtime.NumGoroutine" := by simpa using hn
  simp [callFunc, hf, h1, hb]
theorem callee_rel {ρ : Rho} {ev : Operand → Option V} {rr : Operand → Value} (hev : ∀ x v, ev x = some v → RelV ρ v (rr x)) {c : Call} {g as ca} (h : calleeV c.callee c.args ev = some (g, as, ca)) :
    ∃ xs ys : List Value, RelL ρ as xs ∧ RelL ρ ca ys ∧ ∀ (P : Program) (ty : TypeId) (w : World), (resolve rr c ty).run P w = .ok { target := .fn (.func g) ys.toArray, args := xs.toArray } w := by
  obtain ⟨cl, args, ats⟩ := c
  cases cl with
  | value f =>
    have h : calleeF (ev f) (mapO ev args.toList) = some (g, as, ca) := h
    unfold calleeF at h
    split at h
    · rename_i g' fi ca' as' h1 h2
      cases h
      have hf := hev _ _ h1
      rw [RelV] at hf
      obtain ⟨xs, ys, e1, e2, e3⟩ := hf
      have ha := mapO_rel2 hev _ _ h2
      refine ⟨xs ++ args.toList.map rr, ys, e2.append ha, e3, fun P ty w => ?_⟩
      simp only [resolve, e1, Deferred.ofValue, Sem.run_pure]
      congr 2
      apply Array.ext'; simp
    · cases h
  | _ => cases h
theorem enter_at {P : Program} {g : FuncId} {fn : Func} {c : Code} {xs : Array Value} (kind : CallKind) (hf : P.funcs[g]? = some fn) (hb : fn.body = some c) :
    Frame.enter P g xs kind = (bs ⟨g, fn.ntmps, [], kind⟩).at ⟨xs ++ Array.replicate (fn.ntmps - xs.size) undef, []⟩ [.code c] := by
  simp [Frame.enter, Frame.at, hf, hb, bs]
theorem tm_enter {ρ : Rho} {as : List V} {xs : List Value} {n : Nat} (h : RelL ρ as xs) (hn : as.length ≤ n) : TmRel ρ n (Tr.fill as 0 .nil) (xs.toArray ++ Array.replicate (n - xs.toArray.size) undef) := by
  have hl := h.length
  refine ⟨by simp; omega, fun i hi => ?_, fun i x hi => ?_⟩
  · rw [Tr.get_fill, if_neg (by simp at hi; omega), Tr.get_nil]
  · unfold tmGet
    rw [Tr.get_fill]
    by_cases hi2 : i < as.length
    · rw [if_pos (by omega), Nat.sub_zero, List.getElem?_eq_getElem hi2]
      obtain ⟨y, h1, h2⟩ := h.get (List.getElem?_eq_getElem hi2)
      rw [Array.getElem?_append_left (by simpa using (by omega : i < xs.length))] at hi
      rw [List.getElem?_toArray, h1] at hi
      cases hi; exact h2
    · rw [if_neg (by omega), Tr.get_nil]
      rw [Array.getElem?_append_right (by simp; omega), Array.getElem?_replicate] at hi
      split at hi
      · cases hi; exact undef_rel
      · cases hi
theorem exit_rel {id : Nat} : ∀ {k k' : List VI} {its : List Item}, exitV id k = some k' → ItsRel k its → ∃ its', exitTo id its = some its' ∧ ItsRel k' its'
  | [], _, _, h, _ => by cases h
  | x :: k, k', its, h, hi => by
    obtain ⟨y, ys, rfl, h1, h2⟩ := hi
    cases x with
    | blk id' =>
      have h1 : y = .inBlock id' := h1
      subst h1
      simp only [exitV] at h
      split at h
      · rename_i hb
        have hb := Nat.eq_of_beq_eq_true hb
        cases h
        exact ⟨ys, by simp [exitTo, hb], h2⟩
      · rename_i hb
        have hb : ¬ id' = id := fun e => by subst e; simp at hb
        obtain ⟨its', h3, h4⟩ := exit_rel h h2
        exact ⟨its', by simp [exitTo, hb, h3], h4⟩
    | code c => have h1 : y = _ := h1; subst h1; obtain ⟨its', h3, h4⟩ := exit_rel (k := k) h h2; exact ⟨its', by simpa [exitTo] using h3, h4⟩
    | lp c => have h1 : y = _ := h1; subst h1; obtain ⟨its', h3, h4⟩ := exit_rel (k := k) h h2; exact ⟨its', by simpa [exitTo] using h3, h4⟩
    | sc c => have h1 : y = _ := h1; subst h1; obtain ⟨its', h3, h4⟩ := exit_rel (k := k) h h2; exact ⟨its', by simpa [exitTo] using h3, h4⟩
    | ops l all => obtain ⟨kk, h1, _⟩ := h1; subst h1; obtain ⟨its', h3, h4⟩ := exit_rel (k := k) h h2; exact ⟨its', by simpa [exitTo] using h3, h4⟩
    | rt => exact h1.elim
def resF (tmps : Array Value) : ResultVar → Sem Value
  | .tmp t => pure (tmps.getD t undef)
  | .cell a t => do loadVar t (← asAddr (tmps.getD a undef))
theorem res_rel {P : Program} {F w0 ρ m w} {nt tm tmps} (hm : RM F w0 ρ m w) (h : TmRel ρ nt tm tmps) : ∀ (rs : List ResultVar) (vs : List V), resV P tm m rs = some vs →
    ∃ xs, RelL ρ vs xs ∧ (rs.mapM (resF tmps)).run P w = .ok xs w
  | [], vs, e => by rw [resV] at e; cases e; exact ⟨[], .nil, by simp⟩
  | .tmp t :: rs, vs, e => by
    rw [resV] at e
    split at e
    · rename_i vs' hvs
      cases e
      obtain ⟨xs, h1, h2⟩ := res_rel hm h rs vs' hvs
      have := evO_rel (G := 0) (dfs := []) (fun g hg => absurd hg (by omega)) h (.tmp t) (tmGet tm t) rfl
      refine ⟨_ :: xs, .cons this h1, ?_⟩
      rw [List.mapM_cons]
      simp only [resF, Sem.run_bind, Sem.run_pure, Result.andThen_ok, h2]
      rfl
    · cases e
  | .cell a t :: rs, vs, e => by
    rw [resV] at e
    split at e
    · cases e
    · rename_i v hv
      split at e
      · rename_i vs' hvs
        cases e
        obtain ⟨xs, h1, h2⟩ := res_rel hm h rs vs' hvs
        have hr := evO_rel (G := 0) (dfs := []) (fun g hg => absurd hg (by omega)) h (.tmp a) (tmGet tm a) rfl
        obtain ⟨y, h3, h4⟩ := load_ok (P := P) hm hr hv
        refine ⟨y :: xs, .cons h4 h1, ?_⟩
        have hp : ∃ ad, (⟨tmps, []⟩ : Act).eval (.tmp a) = .pointer (some ad) := by
          unfold loadV at hv
          split at hv
          · rename_i b o heq
            rw [heq, RelV] at hr
            obtain ⟨r, c, _, hh⟩ := hr
            exact ⟨_, hh⟩
          · cases hv
        obtain ⟨ad, hp⟩ := hp
        rw [hp] at h3
        have hp' : tmps.getD a undef = .pointer (some ad) := hp
        simp only [Instr.loadAt, Instr.sureAddr, Sem.run_bind, Sem.run_pure, Result.andThen_ok] at h3
        rw [List.mapM_cons]
        simp only [resF, hp', asAddr, Sem.run_bind, Sem.run_pure, Result.andThen_ok, h3, h2]
      · cases e
theorem resultV_rel {ρ : Rho} {vs : List V} {xs : List Value} (h : RelL ρ vs xs) : RelV ρ (resultV vs) (if h : xs.toArray.size = 1 then xs.toArray[0] else .tuple xs.toArray) := by
  cases vs with
  | nil => rw [RelL] at h; subst h; simp only [resultV]; rw [dif_neg (by simp), RelV]; exact ⟨[], rfl, .nil⟩
  | cons v vs =>
    have h0 := h
    rw [RelL] at h
    obtain ⟨x, ys, rfl, h1, h2⟩ := h
    cases vs with
    | nil => rw [RelL] at h2; subst h2; simpa [resultV] using h1
    | cons v' vs' =>
      have := h2.length
      simp only [resultV]
      rw [dif_neg (by rw [List.size_toArray, List.length_cons, ← this, List.length_cons]; omega), RelV]
      exact ⟨_, rfl, h0⟩
theorem resOf_rel {P : Program} {F w0 ρ m w} {nt tm tmps} {f : FuncId} {v : V} (hm : RM F w0 ρ m w) (h : TmRel ρ nt tm tmps) (he : resOf P f tm m = some v) :
    ∃ fn x, P.funcs[f]? = some fn ∧ (results fn tmps).run P w = .ok x w ∧ RelV ρ v x := by
  unfold resOf at he
  split at he
  · cases he
  · rename_i fn hf
    split at he
    · cases he
    · rename_i vs hvs
      cases he
      obtain ⟨xs, h1, h2⟩ := res_rel (P := P) hm h _ _ hvs
      refine ⟨fn, _, hf, ?_, resultV_rel h1⟩
      have hres : results fn tmps = (do
          let vs ← fn.results.mapM (resF tmps)
          pure (if h : vs.size = 1 then vs[0] else .tuple vs)) := by
        unfold results
        congr 1
      rw [hres, Sem.run_bind, ← Array.toArray_toList (xs := fn.results), List.mapM_toArray]
      simp only [Sem.run_map, h2, Result.andThen_ok, Sem.run_pure]
end Go.CE
