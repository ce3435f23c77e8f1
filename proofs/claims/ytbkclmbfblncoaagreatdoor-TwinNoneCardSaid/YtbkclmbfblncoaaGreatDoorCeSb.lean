/-
  SYMBOLIC EVALUATION, 2: what it comes to is what the closed evaluation comes to.
-/
import Derived.Test.YtbkclmbfblncoaaGreatDoorCeSa
noncomputable section
namespace Go.CE
open Go
set_option linter.unusedSimpArgs false
set_option linter.unusedVariables false

section
variable {β : Type}
theorem optK_some {α : Type} {o : Option α} {κ : α → Option β} {b : β} (h : optK o κ = some b) : ∃ a, o = some a ∧ κ a = some b := by
  cases o with
  | none => cases h
  | some a => exact ⟨a, rfl, h⟩
theorem pairK_some {o : Option (V × Mem)} {κ : V → Mem → Option β} {b : β} (h : pairK o κ = some b) : ∃ v m, o = some (v, m) ∧ κ v m = some b := by
  cases o with
  | none => cases h
  | some p => obtain ⟨v, m⟩ := p; exact ⟨v, m, rfl, h⟩
theorem chkK_some {c : Bool} {κ : Option β} {b : β} (h : chkK c κ = some b) : c = true ∧ κ = some b := by
  cases c with
  | false => cases h
  | true => exact ⟨rfl, h⟩
theorem intIn_inB {i : Int} {n : Nat} (h : intIn i n = true) : inB i n = some (toN i) := by
  unfold intIn at h
  rw [Bool.and_eq_true] at h
  obtain ⟨h1, h2⟩ := h
  cases i with
  | negSucc k => cases h1
  | ofNat k =>
    have h2 : (!(Nat.ble n k)) = true := h2
    show (match Nat.blt k n with | true => some k | false => none) = some k
    have : Nat.blt k n = true := by
      have h3 : ¬ n ≤ k := fun e => by
        rw [Nat.ble_eq_true_of_le e] at h2; cases h2
      exact Nat.ble_eq_true_of_le (by omega)
    rw [this]
theorem inBK_some {i : Int} {n : Nat} {κ : Nat → Option β} {b : β} (h : inBK i n κ = some b) : ∃ k, inB i n = some k ∧ κ k = some b := by
  unfold inBK at h
  split at h
  · rename_i h1; exact ⟨_, intIn_inB h1, h⟩
  · cases h
theorem indexAddrK_some {P : Program} {t : TypeId} {x i : V} {κ : V → Option β} {b : β} (h : indexAddrK P t x i κ = some b) : ∃ v, indexAddrV P t x i = some v ∧ κ v = some b := by
  unfold indexAddrK at h
  unfold indexAddrV
  split at h
  · split at h
    · split at h
      · rename_i e hu
        split at h
        · rename_i ie hie
          obtain ⟨k, h1, h2⟩ := inBK_some h
          exact ⟨_, by simp only [hu, hie, h1], h2⟩
        · cases h
      · cases h
    · split at h
      · rename_i e hu
        split at h
        · rename_i ie hie
          obtain ⟨k, h1, h2⟩ := inBK_some h
          exact ⟨_, by simp only [hu, hie, h1], h2⟩
        · cases h
      · cases h
    · cases h
  · cases h
theorem natK_some {v : V} {κ : Nat → Option β} {b : β} (h : natK v κ = some b) : ∃ n, natOf v = some n ∧ κ n = some b := by
  unfold natK at h
  split at h
  · rename_i k n
    obtain ⟨h1, h2⟩ := chkK_some h
    cases n with
    | negSucc j => cases h1
    | ofNat j => exact ⟨j, rfl, h2⟩
  · cases h
theorem makeIK_some {P : Program} {t : TypeId} {x y : V} {m : Mem} {κ : V → Mem → Option β} {b : β} (h : makeIK P t x y m κ = some b) : ∃ v m', makeSliceV P t x y m = some (v, m') ∧ κ v m' = some b := by
  obtain ⟨l, h1, h2⟩ := natK_some h
  obtain ⟨c, h3, h4⟩ := natK_some h2
  split at h4
  · rename_i e hu
    split at h4
    · rename_i q zs ie hz hie
      obtain ⟨g1, g2⟩ := chkK_some h4
      obtain ⟨g3, g4⟩ := chkK_some g2
      obtain ⟨g5, g6⟩ := chkK_some g4
      exact ⟨_, _, by simp only [makeSliceV, h1, h3, hu, hz, hie, g1, g3, g5, Bool.and_self], g6⟩
    · cases h4
  · cases h4
theorem eqK_all (P : Program) : ∀ (d : Nat), (∀ (t : TypeId) (x y : V) (κ : Bool → Option β) (b : β), eqK P d t x y κ = some b → ∃ c, eqV P d t x y = some c ∧ κ c = some b) ∧
    (∀ (fs : List Field) (xs ys : List V) (κ : Bool → Option β) (b : β), eqFsK P d fs xs ys κ = some b → ∃ c, eqFs P d fs xs ys = some c ∧ κ c = some b) ∧
    (∀ (e : TypeId) (n : Nat) (xs ys : List V) (is : List Nat) (κ : Bool → Option β) (b : β), eqAsK P d e n xs ys is κ = some b → ∃ c, eqAs P d e n xs ys is = some c ∧ κ c = some b)
  | 0 => ⟨fun _ _ _ _ _ h => by simp [eqK] at h, fun _ _ _ _ _ h => by simp [eqFsK] at h, fun _ _ _ _ _ _ _ h => by simp [eqAsK] at h⟩
  | d + 1 => by
    obtain ⟨ih1, ih2, ih3⟩ := eqK_all P d
    refine ⟨fun t x y κ b h => ?_, fun fs xs ys κ b h => ?_, fun e n xs ys is κ b h => ?_⟩
    · rw [eqK] at h
      split at h
      · cases h
      · rename_i dt hdt
        split at h
        · exact ⟨_, by rw [eqV]; simp only [hdt], h⟩
        · split at h
          · rename_i hk
            exact ⟨_, by rw [eqV]; simp only [hdt, hk], h⟩
          · cases h
        · exact ⟨_, by rw [eqV]; simp only [hdt], h⟩
        · split at h
          · cases h
          · rename_i hs
            obtain ⟨c, h1, h2⟩ := ih2 _ _ _ _ _ h
            exact ⟨c, by rw [eqV]; simp only [hdt, hs, h1], h2⟩
        · split at h
          · rename_i i hi
            obtain ⟨c, h1, h2⟩ := ih3 _ _ _ _ _ _ _ h
            exact ⟨c, by rw [eqV]; simp only [hdt, hi, h1], h2⟩
          · cases h
        · split at h
          · rename_i c hc
            exact ⟨c, hc, h⟩
          · cases h
    · cases fs with
      | nil =>
        rw [eqFsK] at h
        exact ⟨true, by rw [eqFs], h⟩
      | cons f fs =>
        rw [eqFsK] at h
        rw [eqFs]
        split at h
        · rename_i hn
          simp only [hn]
          exact ih2 _ _ _ _ _ h
        · rename_i hn
          simp only [hn]
          split at h
          · cases h
          · rename_i a ha
            simp only [ha]
            split at h
            · cases h
            · rename_i a2 ha2
              simp only [ha2]
              obtain ⟨c, h1, h2⟩ := ih1 _ _ _ _ _ h
              simp only [h1]
              split at h2
              · exact ⟨false, rfl, h2⟩
              · exact ih2 _ _ _ _ _ h2
    · cases is with
      | nil =>
        rw [eqAsK] at h
        exact ⟨true, by rw [eqAs], h⟩
      | cons i is =>
        rw [eqAsK] at h
        rw [eqAs]
        split at h
        · cases h
        · rename_i a ha
          simp only [ha]
          split at h
          · cases h
          · rename_i a2 ha2
            simp only [ha2]
            obtain ⟨c, h1, h2⟩ := ih1 _ _ _ _ _ h
            simp only [h1]
            split at h2
            · exact ⟨false, rfl, h2⟩
            · exact ih3 _ _ _ _ _ _ _ h2
theorem binK_some {P : Program} {op : BinOp} {t : TypeId} {xo yo : Operand} {x y : V} {κ : V → Option β} {b : β} (h : binK P op t xo yo x y κ = some b) : ∃ v, binV P op t xo yo x y = some v ∧ κ v = some b := by
  unfold binK at h
  split at h
  · rename_i k a k' c
    unfold binV
    split at h
    · rename_i hs
      obtain ⟨h1, h2⟩ := chkK_some h
      cases c with
      | negSucc j => cases h1
      | ofNat j =>
        refine ⟨_, ?_, h2⟩
        simp only [hs]
        cases op <;> first | (cases hs; done) | rfl
    · rename_i hs
      simp only [hs]
      split at h
      · rename_i hk
        simp only [hk]
        split at h
        · rename_i hd
          obtain ⟨h1, h2⟩ := chkK_some h
          refine ⟨_, ?_, h2⟩
          have hc : c ≠ 0 := fun e => by subst e; cases h1
          cases op <;> first | (cases hd; done) | skip
          · unfold arithV divV
            cases c with
            | negSucc j => rfl
            | ofNat j => cases j with
              | zero => exact absurd rfl hc
              | succ j => rfl
          · unfold arithV divV
            cases c with
            | negSucc j => rfl
            | ofNat j => cases j with
              | zero => exact absurd rfl hc
              | succ j => rfl
        · exact optK_some h
      · cases h
  · rename_i a c
    split at h
    · rename_i hg
      rw [Bool.and_eq_true] at hg
      obtain ⟨q, h1, h2⟩ := (eqK_all P 30).1 _ _ _ _ _ h
      refine ⟨_, ?_, h2⟩
      unfold binV
      simp only [hg.1]
      cases op <;> first | (cases hg.2; done) | (simp only [h1]; rfl)
    · cases h
  · exact optK_some h
theorem exK_some {op : Op} {P : Program} {ev : Operand → Option V} {m : Mem} {κ : V → Mem → Option β} {b : β} (h : exK op P ev m κ = some b) : ∃ v m', exOp op P ev m = some (v, m') ∧ κ v m' = some b := by
  cases op <;> first
    | exact pairK_some h
    | skip
  · obtain ⟨v, h1, h2⟩ := optK_some h
    exact ⟨v, m, by simp only [exOp, h1, keepM], h2⟩
  · obtain ⟨v, h1, h2⟩ := optK_some h
    exact ⟨v, m, by simp only [exOp, h1, keepM], h2⟩
  · obtain ⟨v, h1, h2⟩ := optK_some h
    obtain ⟨u, h3, h4⟩ := optK_some h2
    exact ⟨u, m, by simp only [exOp, exLoad, h1, h3, keepM], h4⟩
  · obtain ⟨v, h1, h2⟩ := optK_some h
    obtain ⟨u, h3, h4⟩ := optK_some h2
    obtain ⟨m', h5, h6⟩ := optK_some h4
    exact ⟨_, m', by simp only [exOp, exStore, h1, h3, h5], h6⟩
  · obtain ⟨v, h1, h2⟩ := optK_some h
    obtain ⟨u, h3, h4⟩ := optK_some h2
    obtain ⟨x, h5, h6⟩ := binK_some h4
    exact ⟨x, m, by simp only [exOp, exBin, h1, h3, h5, keepM], h6⟩
  · obtain ⟨v, h1, h2⟩ := optK_some h
    obtain ⟨u, h3, h4⟩ := optK_some h2
    obtain ⟨x, m', h5, h6⟩ := makeIK_some h4
    exact ⟨x, m', by simp only [exOp, exMake, h1, h3, h5], h6⟩
  · obtain ⟨v, h1, h2⟩ := optK_some h
    obtain ⟨u, h3, h4⟩ := optK_some h2
    obtain ⟨x, h5, h6⟩ := indexAddrK_some h4
    exact ⟨x, m, by simp only [exOp, exIndexAddr, h1, h3, h5, keepM], h6⟩

/-- What the one machine comes to, the other one comes to. -/
def Sim (go : Go) (gs : GoS β) (fin : V → Mem → Option β) : Prop := ∀ tm todo r fs m b, gs tm todo r fs m = some b → ∃ v m', go tm todo r fs m = some (v, m') ∧ fin v m' = some b
def KOk (K : KTab) (T : Tab) : Prop := ∀ (β : Type) g (e' : List V → Mem → (V → Mem → Option β) → Option β), K.get g = some e' → ∃ e, T.sum g = some e ∧ ∀ as m (κ : V → Mem → Option β) b, e' as m κ = some b → ∃ v m', e as m = some (v, m') ∧ κ v m' = some b
theorem KOk.none {T : Tab} : KOk KTab.none T := fun _ _ _ h => by cases h
structure EnvS.Ok (S : EnvS) : Prop where
  k : KOk S.K S.E.T
  draw : ∀ {β : Type} q ops nt tm m (κ : Tr V → Mem → Option β) b, S.draw q ops nt tm m κ = some b → ∃ tm' m', S.E.draw ops nt tm m = some (tm', m') ∧ κ tm' m' = some b
section
variable {go : Go} {gs : GoS β} {fin : V → Mem → Option β} {b : β} (hs : Sim go gs fin)
include hs
theorem putS_sim {l all k r fs m x} (h : putS gs l all k r fs m x = some b) : ∃ v m', putGo go l all k r fs m x = some (v, m') ∧ fin v m' = some b := by
  cases x with
  | none => cases h
  | some tm => exact hs _ _ _ _ _ _ h
theorem valS_sim {q d l all k tm r fs v m} (h : valS q gs d l all k tm r fs v m = some b) : ∃ u m', valGo go d l all k tm r fs (some (v, m)) = some (u, m') ∧ fin u m' = some b := by
  unfold valS at h
  rw [splitD_eq] at h
  exact putS_sim hs h
theorem pair_sim {q d l all k tm r fs o} (h : pairK o (valS q gs d l all k tm r fs) = some b) : ∃ u m', valGo go d l all k tm r fs o = some (u, m') ∧ fin u m' = some b := by
  obtain ⟨v, m, rfl, h2⟩ := pairK_some h
  exact valS_sim hs h2
theorem entS_sim {kind g as fs m x} (h : entS gs kind g as fs m x = some b) : ∃ v m', entGo go kind g as fs m x = some (v, m') ∧ fin v m' = some b := by
  cases x with
  | none => cases h
  | some p => obtain ⟨nt, c⟩ := p; exact hs _ _ _ _ _ _ h
theorem opsS_sim {S : EnvS} (hS : S.Ok) {l all k tm r fs m} (h : opsS l all S gs k tm r fs m = some b) : ∃ v m', opsGo l all S.E go k tm r fs m = some (v, m') ∧ fin v m' = some b := by
  cases l with
  | nil => exact hs _ _ _ _ _ _ h
  | cons o l =>
    have h : wantS S gs o l all k tm r fs m (wantedV all tm o.guard) = some b := h
    show ∃ v m', wantGo S.E go o l all k tm r fs m (wantedV all tm o.guard) = some (v, m') ∧ fin v m' = some b
    cases hw : wantedV all tm o.guard with
    | false => rw [hw] at h; exact putS_sim hs h
    | true =>
      rw [hw] at h
      have h : opS (opC o.op) S gs o l all k tm r fs m = some b := h
      show ∃ v m', opGo (opC o.op) S.E go o l all k tm r fs m = some (v, m') ∧ fin v m' = some b
      cases hop : opC o.op with
      | plain =>
        rw [hop] at h
        have h : exK o.op S.E.P (evO S.E.T.g tm) m (valS S.q gs o.dst l all k tm r fs) = some b := h
        obtain ⟨v, m1, h1, h2⟩ := exK_some h
        show ∃ v m', valGo go o.dst l all k tm r fs (exOp o.op S.E.P (evO S.E.T.g tm) m) = some (v, m') ∧ fin v m' = some b
        rw [h1]
        exact valS_sim hs h2
      | call c =>
        rw [hop] at h
        have h : callSG S.q S.K S.E gs o l all k tm r fs m (calleeV c.callee c.args (evO S.E.T.g tm)) = some b := h
        show ∃ v m', callGo S.E go c o l all k tm r fs m (calleeV c.callee c.args (evO S.E.T.g tm)) = some (v, m') ∧ fin v m' = some b
        cases hc : calleeV c.callee c.args (evO S.E.T.g tm) with
        | none => rw [hc] at h; cases h
        | some p =>
          obtain ⟨g, as, ca⟩ := p
          rw [hc] at h
          have h : extS S.q S.K S.E gs o l all k tm r fs m g (as ++ ca) (S.E.T.ext g) = some b := h
          show ∃ v m', extGo S.E go o l all k tm r fs m g (as ++ ca) (S.E.T.ext g) = some (v, m') ∧ fin v m' = some b
          cases hx : S.E.T.ext g with
          | some e => rw [hx] at h; exact pair_sim hs h
          | none =>
            rw [hx] at h
            have h : kS S.q S.E gs o l all k tm r fs m g (as ++ ca) (S.K.get g) = some b := h
            cases hk : S.K.get (β := β) g with
            | some e' =>
              rw [hk] at h
              obtain ⟨e, h1, h2⟩ := hS.k _ _ _ hk
              obtain ⟨v, m1, h3, h4⟩ := h2 _ _ _ _ h
              show ∃ v m', ownGo S.E go o l all k tm r fs m g (as ++ ca) (S.E.T.sum g) = some (v, m') ∧ fin v m' = some b
              rw [h1]
              show ∃ v m', valGo go o.dst l all k tm r fs (e (as ++ ca) m) = some (v, m') ∧ fin v m' = some b
              rw [h3]
              exact valS_sim hs h4
            | none =>
            rw [hk] at h
            have h : ownS S.q S.E gs o l all k tm r fs m g (as ++ ca) (S.E.T.sum g) = some b := h
            show ∃ v m', ownGo S.E go o l all k tm r fs m g (as ++ ca) (S.E.T.sum g) = some (v, m') ∧ fin v m' = some b
            cases hy : S.E.T.sum g with
            | some e => rw [hy] at h; exact pair_sim hs h
            | none => rw [hy] at h; exact entS_sim hs h
      | defr c =>
        rw [hop] at h
        have h : defS gs o l all k tm r fs m (calleeV c.callee c.args (evO S.E.T.g tm)) = some b := h
        show ∃ v m', defGo go o l all k tm r fs m (calleeV c.callee c.args (evO S.E.T.g tm)) = some (v, m') ∧ fin v m' = some b
        cases hc : calleeV c.callee c.args (evO S.E.T.g tm) with
        | none => rw [hc] at h; cases h
        | some p =>
          obtain ⟨g, as, ca⟩ := p
          rw [hc] at h
          have h : (bif isRnd r.kind then none else putS gs l all k ⟨r.fn, r.nt, .call g ca as :: r.df, r.kind⟩ fs m (putTm r.nt tm o.dst undefV)) = some b := h
          show ∃ v m', (bif isRnd r.kind then none else putGo go l all k ⟨r.fn, r.nt, .call g ca as :: r.df, r.kind⟩ fs m (putTm r.nt tm o.dst undefV)) = some (v, m') ∧ fin v m' = some b
          cases hn : isRnd r.kind with
          | true => rw [hn] at h; cases h
          | false => rw [hn] at h; exact putS_sim hs h
      | pan x => rw [hop] at h; cases h
      | rcv => rw [hop] at h; cases h
theorem codeS_sim {S : EnvS} (hS : S.Ok) {c k tm r fs m} (h : codeS c S gs k tm r fs m = some b) : ∃ v m', codeGo c S.E go k tm r fs m = some (v, m') ∧ fin v m' = some b := by
  cases c <;> first
    | exact hs _ _ _ _ _ _ h
    | (cases h; done)
    | skip
  · rename_i id ops d
    cases d with
    | false => exact hs _ _ _ _ _ _ h
    | true =>
      have h : S.draw (S.q r.fn) ops r.nt tm m (fun tm m => gs tm k r fs m) = some b := h
      obtain ⟨tm', m', h1, h2⟩ := hS.draw _ _ _ _ _ _ _ h
      show ∃ v m', drawGo go k r fs (S.E.draw ops r.nt tm m) = some (v, m') ∧ fin v m' = some b
      rw [h1]
      exact hs _ _ _ _ _ _ h2
  · rename_i x a c2
    have h : condS gs a c2 k tm r fs m (evO S.E.T.g tm x) = some b := h
    show ∃ v m', condGo go a c2 k tm r fs m (evO S.E.T.g tm x) = some (v, m') ∧ fin v m' = some b
    unfold condS at h
    unfold condGo
    split at h
    · rename_i hx; simp only [hx]; exact hs _ _ _ _ _ _ h
    · rename_i hx; simp only [hx]; exact hs _ _ _ _ _ _ h
    · cases h
  · rename_i id
    have h : exitS gs tm r fs m (exitV id k) = some b := h
    show ∃ v m', exitGo go id tm r fs m (exitV id k) = some (v, m') ∧ fin v m' = some b
    cases hx : exitV id k with
    | none => rw [hx] at h; cases h
    | some k' => rw [hx] at h; exact hs _ _ _ _ _ _ h
theorem retS_sim {q : FuncId → Tmp → Bool} {E : Env} {tm r fs m dfs} (h : retS q fin E gs tm r fs m dfs = some b) : ∃ v m', retGo E go tm r fs m dfs = some (v, m') ∧ fin v m' = some b := by
  cases dfs with
  | cons d ds =>
    cases d with
    | coll x => cases h
    | call f ca as =>
      have h : (bif isRnd r.kind then none else entS gs .deferred f (as ++ ca) (⟨tm, [.rt], ⟨r.fn, r.nt, ds, r.kind⟩⟩ :: fs) m (enterV E.P f (as ++ ca))) = some b := h
      show ∃ v m', (bif isRnd r.kind then none else entGo go .deferred f (as ++ ca) (⟨tm, [.rt], ⟨r.fn, r.nt, ds, r.kind⟩⟩ :: fs) m (enterV E.P f (as ++ ca))) = some (v, m') ∧ fin v m' = some b
      cases hn : isRnd r.kind with
      | true => rw [hn] at h; cases h
      | false => rw [hn] at h; exact entS_sim hs h
  | nil =>
    have h : (bif isRnd r.kind then none else resS q fin gs r fs m (resOf E.P r.fn tm m)) = some b := h
    show ∃ v m', outGo E go tm r fs m r.kind = some (v, m') ∧ fin v m' = some b
    cases hn : isRnd r.kind with
    | true => rw [hn] at h; cases h
    | false =>
    rw [hn] at h
    have ho : ∀ go, outGo E go tm r fs m r.kind = resGo go r fs m (resOf E.P r.fn tm m) := fun go => by
      cases hk : r.kind with
      | rnd _ => rw [hk] at hn; cases hn
      | _ => rfl
    simp only [ho]
    have h : resS q fin gs r fs m (resOf E.P r.fn tm m) = some b := h
    cases hr : resOf E.P r.fn tm m with
    | none => rw [hr] at h; cases h
    | some v =>
      rw [hr] at h
      have h : kindS q fin gs fs m v r.kind = some b := h
      show ∃ v' m', kindGo go fs m v r.kind = some (v', m') ∧ fin v' m' = some b
      cases hk : r.kind <;> rw [hk] at h <;> first
        | (cases h; done)
        | skip
      · have h : finS q fin gs v m fs = some b := h
        show ∃ v' m', finGo go v m fs = some (v', m') ∧ fin v' m' = some b
        unfold finS at h
        unfold finGo
        split at h
        · exact ⟨v, m, rfl, h⟩
        · exact valS_sim hs h
        · cases h
      · have h : backS gs m fs = some b := h
        show ∃ v' m', backGo go m fs = some (v', m') ∧ fin v' m' = some b
        unfold backS at h
        unfold backGo
        split at h
        · exact hs _ _ _ _ _ _ h
        · cases h
theorem stepS_sim {S : EnvS} (hS : S.Ok) {todo tm r fs m} (h : stepS fin todo S gs tm r fs m = some b) : ∃ v m', stepGo todo S.E go tm r fs m = some (v, m') ∧ fin v m' = some b := by
  cases todo with
  | nil =>
    have h : (bif isRnd r.kind then none else gs tm [.rt] r fs m) = some b := h
    show ∃ v m', (bif isRnd r.kind then none else go tm [.rt] r fs m) = some (v, m') ∧ fin v m' = some b
    cases hn : isRnd r.kind with
    | true => rw [hn] at h; cases h
    | false => rw [hn] at h; exact hs _ _ _ _ _ _ h
  | cons x k =>
    cases x with
    | code c => exact codeS_sim hs hS h
    | blk id => exact hs _ _ _ _ _ _ h
    | lp c => exact hs _ _ _ _ _ _ h
    | sc c => exact hs _ _ _ _ _ _ h
    | ops l all => exact opsS_sim hs hS h
    | rt => exact retS_sim hs h
    | pn _ => cases h
    | pd _ => cases h
    | inR _ => cases h
    | enR _ => cases h
    | beR => cases h
    | lst => cases h
end
theorem runS_sim {S : EnvS} (hS : S.Ok) (fin : V → Mem → Option β) : ∀ n, Sim (run S.E n) (runS S fin n) fin
  | 0 => fun tm todo r fs m b h => by cases h
  | n + 1 => fun tm todo r fs m b h => by
    rw [runS_succ] at h
    rw [run_succ]
    exact stepS_sim (runS_sim hS fin n) hS h
theorem callS_sim {S : EnvS} (hS : S.Ok) {fin : V → Mem → Option β} {n f as m} {b : β} (h : callS S n f as m fin = some b) : ∃ v m', callE S.E n f as m = some (v, m') ∧ fin v m' = some b :=
  entS_sim (runS_sim hS fin n) h

/-! regions that draw -/
theorem actS_sim {S : EnvS} (hS : S.Ok) {N o ev m} {κ : V → Mem → Option β} {b : β} (h : actS S N o ev m κ = some b) : ∃ v m', actV S.E N o ev m = some (v, m') ∧ κ v m' = some b := by
  unfold actS at h
  unfold actV
  split at h
  · rename_i c hop
    simp only [hop]
    split at h
    · rename_i g as ca hc
      simp only [hc]
      split at h
      · rename_i hx; simp only [hx]; exact pairK_some h
      · rename_i hx
        simp only [hx]
        split at h
        · rename_i e' hk
          obtain ⟨e, h1, h2⟩ := hS.k _ _ _ hk
          simp only [h1]
          exact h2 _ _ _ _ h
        · split at h
          · rename_i hy; simp only [hy]; exact pairK_some h
          · rename_i hy; simp only [hy]; exact callS_sim hS h
    · cases h
  · rename_i hop
    simp only [hop]
    exact exK_some h
  · cases h
theorem beqK_some {v u : V} {κ : Option β} {b : β} (h : beqK v u κ = some b) : V.beq v u = true ∧ κ = some b := by
  unfold beqK at h
  split at h
  · rename_i k a k' c
    split at h
    · rename_i hk
      obtain ⟨h1, h2⟩ := chkK_some h
      refine ⟨?_, h2⟩
      unfold V.beq
      rw [hk, Bool.true_and]
      simpa using h1
    · cases h
  · exact chkK_some h
theorem rdK_sim {P : Program} {G : Nat} {ops : Array Oper} {i : Nat} {s : DS} {κ : Option β} {b : β} : ∀ {l : List Nat}, rdK P G ops i s l κ = some b → l.all (rdOk P G ops i s) = true ∧ κ = some b
  | [], h => ⟨rfl, h⟩
  | j :: js, h => by
    rw [rdK] at h
    rw [List.all_cons]
    split at h
    · rename_i ha
      obtain ⟨h1, h2⟩ := rdK_sim h
      exact ⟨by rw [h1, rdOk, ha]; rfl, h2⟩
    · rename_i ha
      split at h
      · cases h
      · rename_i oj hoj
        obtain ⟨v, m', h1, h2⟩ := exK_some h
        split at h2
        · rename_i hd
          obtain ⟨h3, h4⟩ := rdK_sim h2
          refine ⟨?_, h4⟩
          rw [h3, rdOk, ha, hoj]
          simp only [h1, hd, Bool.or_true, Bool.and_self, Bool.false_or]
        · rename_i d hd
          split at h2
          · rename_i u hu
            obtain ⟨h3, h4⟩ := beqK_some h2
            obtain ⟨h5, h6⟩ := rdK_sim h4
            refine ⟨?_, h6⟩
            rw [h5, rdOk, ha, hoj]
            simp only [h1, hd, hu, h3, Bool.or_true, Bool.and_self, Bool.false_or]
          · cases h2
theorem floatK_sim {op : Op} {P : Program} {ev : Operand → Option V} {κ : Option (TypeId × List V × FRef) → Option β} {b : β} (h : floatK op P ev κ = some b) : κ (floatV op P ev) = some b := by
  cases op <;> first
    | exact h
    | skip
  rename_i t x y
  obtain ⟨a, h1, h2⟩ := optK_some h
  obtain ⟨a2, h3, h4⟩ := optK_some h2
  obtain ⟨l, h5, h6⟩ := natK_some h4
  obtain ⟨c, h7, h8⟩ := natK_some h6
  split at h8
  · rename_i e hu
    split at h8
    · rename_i q zs ie hz hie
      obtain ⟨g1, g2⟩ := chkK_some h8
      obtain ⟨g3, g4⟩ := chkK_some g2
      obtain ⟨g5, g6⟩ := chkK_some g4
      have : floatV (.makeSlice t x y) P ev = some (e, repV zs c, .m l (c - l)) := by
        simp only [floatV, h1, h3, makeF, h5, h7, hu, hz, hie, g1, g3, g5, Bool.and_self]
      rw [this]
      exact g6
    · cases h8
  · cases h8
theorem goK_sim {q : Tmp → Bool} {S : EnvS} (hS : S.Ok) {N ops nt} {κ : DS → Option β} {b : β} : ∀ {l X s}, goK q S N ops nt l X s κ = some b → ∃ s', goD S.E N ops nt l X s = some s' ∧ κ s' = some b
  | [], X, s, h => by
    unfold goK at h
    unfold goD
    split at h
    · rename_i hr; simp only [hr]; exact ⟨s, rfl, h⟩
    · cases h
  | i :: l, X, s, h => by
    unfold goK at h
    unfold goD
    split at h
    · cases h
    · rename_i o ho
      simp only [ho]
      split at h
      · cases h
      · rename_i hr
        simp only [hr]
        split at h
        · rename_i hw
          simp only [hw]
          obtain ⟨s', h1, h2⟩ := optK_some h
          simp only [h1]
          exact goK_sim hS h2
        · rename_i hw
          simp only [hw]
          split at h
          · rename_i hb
            simp only [hb]
            obtain ⟨v, m', h1, h2⟩ := exK_some h
            rw [splitD_eq] at h2
            obtain ⟨tm, h3, h4⟩ := optK_some h2
            simp only [dSil, h1, h3]
            exact goK_sim hS h4
          · rename_i hb
            simp only [hb]
            have h := floatK_sim h
            split at h
            · rename_i hf
              simp only [hf]
              exact goK_sim hS h
            · rename_i hf
              simp only [hf]
              split at h
              · rename_i hone
                simp only [hone]
                obtain ⟨v, m1, h1, h2⟩ := actS_sim hS h
                rw [splitD_eq] at h2
                obtain ⟨tm, h3, h4⟩ := optK_some h2
                obtain ⟨h5, h6⟩ := rdK_sim h4
                simp only [dAct, h1, h3, h5]
                exact goK_sim hS h6
              · cases h
theorem drawK_sim {q : Tmp → Bool} {S : EnvS} (hS : S.Ok) {N ops nt tm m} {κ : Tr V → Mem → Option β} {b : β} (h : drawK q S N ops nt tm m κ = some b) : ∃ tm' m', drawF S.E N ops nt tm m = some (tm', m') ∧ κ tm' m' = some b := by
  unfold drawK at h
  unfold drawF
  split at h
  · cases h
  · rename_i hq
    obtain ⟨s, h1, h2⟩ := goK_sim hS h
    simp only [hq, h1]
    exact ⟨_, _, rfl, h2⟩
end
theorem envS_E (K : KTab) (q : FuncId → Tmp → Bool) (P : Program) (T : Tab) (N : Nat) : ∀ d, (envK K q P T N d).E = envD P T N d
  | 0 => rfl
  | _ + 1 => rfl
theorem envS_ok {K : KTab} {T : Tab} (hK : KOk K T) (q : FuncId → Tmp → Bool) (P : Program) (N : Nat) : ∀ d, (envK K q P T N d).Ok
  | 0 => ⟨hK, fun _ _ _ _ _ _ _ h => by cases h⟩
  | d + 1 => ⟨hK, fun q' ops nt tm m κ b h => by
    have := drawK_sim (envS_ok hK q P N d) h
    rw [envS_E] at this
    exact this⟩
/-- A call that the symbolic machine reckons. -/
theorem callS_ok {β : Type} {K : KTab} {q : FuncId → Tmp → Bool} {P : Program} {T : Tab} (hT : TabOk P T) (hK : KOk K T) (hmix : P.follows .mixedOrders = true) {N d n : Nat} {f : FuncId} {as : List V} {m : Mem} {fin : V → Mem → Option β} {b : β} (he : callS (envK K q P T N d) n f as m fin = some b) {F : Fx} {w0 w : World} {ρ : Rho} {xs : List Value}
    (hm : RM F w0 ρ m w) (hg : Glo T.g ρ) (ha : RelL ρ as xs) :
    Calls P f (List.toArray xs) w fun e w' => ∃ ρ' x v m', e = .returned x ∧ Ext ρ ρ' ∧ RelV ρ' v x ∧ RM F w0 ρ' m' w' ∧ fin v m' = some b := by
  obtain ⟨v, m', h1, h2⟩ := callS_sim (envS_ok hK q P N d) he
  rw [envS_E] at h1
  exact (callD_ok hT hmix h1 hm hg ha).mono fun e w' ⟨ρ', x, h3, h4, h5, h6⟩ => ⟨ρ', x, v, m', h3, h4, h5, h6, h2⟩
end Go.CE
