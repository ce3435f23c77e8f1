/-
  CLOSED EVALUATION, 21: the tables of a program are right.
-/
import Derived.Test.YtbkclmbfblncoaaGreatDoorCeT
noncomputable section
namespace Go.CE
open Go
set_option linter.unusedSimpArgs false
set_option linter.unusedVariables false

theorem lst_rep {n i : Nat} : ¬ Lst (Array.replicate n false) i := by
  unfold Lst
  simp [Array.getD]
theorem Inv.init {E : Env} {ops : Array Oper} {nt : Nat} {F : Fx} {w0 w : World} {ρ : Rho} {tm : Tr V} {m : Mem} {tmps : Array Value} (hm : RM F w0 ρ m w) (hg : Glo E.T.g ρ) (ht : TmRel ρ nt tm tmps) :
    Inv E ops nt F w0 (Array.replicate ops.size false) (Array.replicate ops.size false) ⟨tm, m, [], []⟩ ρ tmps w :=
  ⟨by simp, by simp, fun _ h => h, fun _ _ h => absurd h lst_rep, fun _ _ h => absurd h lst_rep, ht.size, fun i hi => ht.out i (by have := ht.size; omega), fun t x hx => .inr (ht.get t x hx), fun _ _ h => absurd h lst_rep, fun _ _ h => by simp at h, fun _ _ _ _ h => by simp at h,
    fun _ _ h => by simp at h, fun k b hk => hm.live hk, fun _ _ h => by simp at h, hm, hg, fun _ _ h => by simp at h, fun _ _ h => by simp at h, fun _ _ h => absurd h lst_rep⟩
theorem drawF_ok {E : Env} (hE : EnvOk E) (hmix : E.P.follows .mixedOrders = true) {N : Nat} : ∀ ops nt tm m tm' m', drawF E N ops nt tm m = some (tm', m') → ∀ F w0 ρ w tmps dfs id (b : Frame) k cs, RM F w0 ρ m w → Glo E.T.g ρ → TmRel ρ nt tm tmps →
    ∃ ρ' w' tmps', Ext ρ ρ' ∧ TmRel ρ' nt tm' tmps' ∧ RM F w0 ρ' m' w' ∧ Steps E.P (lone (b.atR ⟨tmps, dfs⟩ (.code (.region id ops true) :: k)) cs w) (lone (b.atR ⟨tmps', dfs⟩ k) cs w') := by
  intro ops nt tm m tm' m' h F w0 ρ w tmps dfs id b k cs hm hg ht
  unfold drawF at h
  split at h
  · cases h
  · rename_i hsb
    rw [Bool.and_eq_true] at hsb
    split at h
    · rename_i sF hgo
      cases h
      have s1 := stepR_region_draw (P := E.P) (b := b) (a := ⟨tmps, dfs⟩) (k := k) (cs := cs) (w := w) (ops := ops) (id := id)
      have hsch : ∀ t, Region.schedule (E.P.follows .mixedOrders) ops t = Region.linearise.go .any ops ops.size t (Array.replicate ops.size false) [] := fun t => by
        simp only [Region.schedule, hmix, Bool.true_or, if_true]; rfl
      rw [hsch] at s1
      obtain ⟨ρ1, w1, tmps1, k1, k2, k3, k4⟩ := Inv.main hE hsb.1 hsb.2 dfs b k cs ops.size _ _ (Inv.init (ops := ops) (w := { w with drawn := w.drawn + 1 }) hm.drew hg ht) hgo (by simp)
      exact ⟨ρ1, w1, tmps1, k1, k2, k3, .head s1 (k4.trans (.one stepR_region_end))⟩
    · cases h
/-- What is asked of a program and of its tables. -/
structure TabOk (P : Program) (T : Tab) : Prop where
  ng : ∀ (f : FuncId) (fn : Func), P.funcs[f]? = some fn → (fn.name == "runtime.NumGoroutine") = false
  ext : ∀ g e as m v m', T.ext g = some e → e as m = some (v, m') → ∀ F w0 ρ w xs, RM F w0 ρ m w → RelL ρ as xs →
    ∃ ρ' x w', Ext ρ ρ' ∧ (callFunc g (List.toArray xs)).run P w = .ok (.value x) w' ∧ RelV ρ' v x ∧ RM F w0 ρ' m' w'
  sum : ∀ g e as m v m', T.sum g = some e → e as m = some (v, m') → (∃ fn c, P.funcs[g]? = some fn ∧ fn.body = some c) ∧ ∀ F w0 ρ w xs, RM F w0 ρ m w → Glo T.g ρ → RelL ρ as xs →
    Calls P g (List.toArray xs) w fun e w' => ∃ ρ' x, e = .returned x ∧ Ext ρ ρ' ∧ RelV ρ' v x ∧ RM F w0 ρ' m' w'
theorem envD_P (P : Program) (T : Tab) (N : Nat) : ∀ d, (envD P T N d).P = P ∧ (envD P T N d).T = T
  | 0 => ⟨rfl, rfl⟩
  | d + 1 => ⟨rfl, rfl⟩
theorem envD_ok {P : Program} {T : Tab} (hT : TabOk P T) (hmix : P.follows .mixedOrders = true) (N : Nat) : ∀ d, EnvOk (envD P T N d)
  | 0 => ⟨hT.ng, hT.ext, hT.sum, fun _ _ _ _ _ _ h => by cases h⟩
  | d + 1 => ⟨hT.ng, hT.ext, hT.sum, fun ops nt tm m tm' m' h => by
      have := drawF_ok (envD_ok hT hmix N d) (by rw [(envD_P P T N d).1]; exact hmix) ops nt tm m tm' m' h
      rw [(envD_P P T N d).1, (envD_P P T N d).2] at this
      exact this⟩
/-- A call that is reckoned, from a table that is right. -/
theorem callD_ok {P : Program} {T : Tab} (hT : TabOk P T) (hmix : P.follows .mixedOrders = true) {N d n : Nat} {f : FuncId} {as : List V} {m m' : Mem} {v : V} (he : callE (envD P T N d) n f as m = some (v, m')) {F : Fx} {w0 w : World} {ρ : Rho} {xs : List Value}
    (hm : RM F w0 ρ m w) (hg : Glo T.g ρ) (ha : RelL ρ as xs) :
    Calls P f (List.toArray xs) w fun e w' => ∃ ρ' x, e = .returned x ∧ Ext ρ ρ' ∧ RelV ρ' v x ∧ RM F w0 ρ' m' w' := by
  have := callE_ok (envD_ok hT hmix N d) he hm (by rw [(envD_P P T N d).2]; exact hg) ha
  rw [(envD_P P T N d).1] at this
  exact this
end Go.CE
