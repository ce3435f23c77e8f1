/-
  CLOSED EVALUATION, 8: other builtins; equality.
-/
import Derived.Test.YtbkclmbfblncoaaGreatDoorCeG
import Derived.Laws.StructEq
noncomputable section
namespace Go.CE
open Go
set_option linter.unusedSimpArgs false
set_option linter.unusedVariables false

def copyV (P : Program) (t : TypeId) (d x : V) (m : Mem) : Option (V × Mem) :=
  match P.underlying t with
  | some (.slice e) => match P.info? e with
    | some i => match d with
      | .sl b o k _ => match (match x with
          | .nils => some 0
          | .sl _ _ n _ => some n
          | .str s => some s.length
          | _ => none) with
        | some n0 => match (match x with
            | .nils => some []
            | .sl b' o' _ _ => m.cells b' o' (Nat.mul (Nat.min n0 k) i.size)
            | .str s => match Nat.beq i.size 1 with
              | true => some (bytesV (s.take (Nat.min n0 k)))
              | false => none
            | _ => none) with
          | some news => match m.puts b news o with
            | some m' => some (.int .i64 (Int.ofNat (Nat.min n0 k)), m')
            | none => none
          | none => none
        | none => none
      | _ => none
    | none => none
  | _ => none
theorem copy_ok {P F w0 ρ m w t ty d x a b v m'} {ts : Array TypeId} (hts : ts[0]? = some t) (h : RM F w0 ρ m w) (hd : RelV ρ d a) (hx : RelV ρ x b) (he : copyV P t d x m = some (v, m')) : Does P F w0 ρ w (Builtin.copy_ ts ty #[a, b]) v m' := by
  unfold copyV at he
  split at he
  · rename_i e hu
    split at he
    · rename_i i hi
      split at he
      · rename_i bb o k cp
        rw [RelV] at hd
        obtain ⟨r, c, hr, rfl, hle⟩ := hd
        split at he
        · rename_i n0 hn0
          split at he
          · rename_i news hnews
            split at he
            · rename_i m1 hm1
              cases he
              have key : ∃ xs, RelL ρ news xs ∧ (Builtin.lenOf b).run P w = .ok n0 w ∧ (Builtin.firstCells i.size (Nat.min n0 k) b).run P w = .ok xs.toArray w := by
                cases x <;> simp only at hn0 hnews <;> first
                  | (cases hn0; done)
                  | skip
                · rename_i s
                  rw [RelV] at hx; subst hx
                  cases hn0
                  split at hnews
                  · rename_i hb
                    have hb := Nat.eq_of_beq_eq_true hb
                    cases hnews
                    have hsz : (⟨s.toArray⟩ : ByteArray).size = s.length := by simp [ByteArray.size]
                    refine ⟨_, bytesV_rel _, by simp [Builtin.lenOf, hsz], ?_⟩
                    simp only [Builtin.firstCells, Sem.run_pure]
                    congr 1
                    rw [ByteArray.data_extract]
                    apply Array.ext'
                    simp
                  · cases hnews
                · rw [RelV] at hx; subst hx
                  cases hn0; cases hnews
                  exact ⟨[], .nil, by simp [Builtin.lenOf], by simp [Builtin.firstCells]⟩
                · rename_i b' o' n' cp'
                  rw [RelV] at hx
                  obtain ⟨r', c', hr', rfl, hle'⟩ := hx
                  cases hn0
                  obtain ⟨xs, h1, h2, h3⟩ := h.cells hr' hnews
                  refine ⟨xs, h2, by simp [Builtin.lenOf], ?_⟩
                  have := run_loadCells_list (P := P) (w := w) ⟨r', o', none⟩ xs h3
                  rw [h1] at this
                  simpa [Builtin.firstCells] using this
              obtain ⟨xs, k1, k2, k3⟩ := key
              obtain ⟨w', h1, h2, h3⟩ := puts_ok (P := P) hr o news xs 0 m _ w h k1 hm1
              refine ⟨ρ, _, w', Ext.refl ρ, ?_, RelV.int, h2⟩
              have h1' : (storeCells ⟨r, o, none⟩ xs).run P w = .ok () w' := h1
              have k3' : (Builtin.firstCells i.size (n0.min k) b).run P w = .ok xs.toArray w := k3
              simp [Builtin.copy_, hts, run_ty hu, k2, run_size hi, k3', h1', goInt]
            · cases he
          · cases he
        · cases he
      · cases he
    · cases he
  · cases he

def lenV (P : Program) (t : TypeId) (x : V) : Option V :=
  match P.underlying t with
  | some .string => match x with
    | .str s => some (.int .i64 (Int.ofNat s.length))
    | _ => none
  | some (.array n _) => some (.int .i64 (Int.ofNat n))
  | some (.slice _) => match x with
    | .nils => some (.int .i64 (Int.ofNat 0))
    | .sl _ _ n _ => some (.int .i64 (Int.ofNat n))
    | _ => none
  | some (.map _ _) => match x with
    | .nilm => some (.int .i64 (Int.ofNat 0))
    | _ => none
  | _ => none
theorem len_ok {P : Program} {w : World} {ρ : Rho} {t ty x a v} {ts : Array TypeId} (hts : ts[0]? = some t) (hx : RelV ρ x a) (he : lenV P t x = some v) : ∃ y, (Builtin.len_ ts ty #[a]).run P w = .ok y w ∧ RelV ρ v y := by
  unfold lenV at he
  split at he
  · rename_i hu
    split at he
    · rename_i s
      cases he; rw [RelV] at hx; subst hx
      refine ⟨_, ?_, RelV.int⟩
      have hsz : (⟨s.toArray⟩ : ByteArray).size = s.length := by simp [ByteArray.size]
      simp [Builtin.len_, hts, run_ty hu, goInt, hsz]
    · cases he
  · rename_i n e hu
    cases he
    exact ⟨.int .i64 n, by simp [Builtin.len_, hts, run_ty hu, goInt], RelV.int⟩
  · rename_i e hu
    split at he
    · cases he; rw [RelV] at hx; subst hx
      exact ⟨.int .i64 0, by simp [Builtin.len_, hts, run_ty hu, goInt], RelV.int⟩
    · cases he; rw [RelV] at hx; obtain ⟨r, c, hr, rfl, _⟩ := hx
      refine ⟨_, ?_, RelV.int⟩
      simp [Builtin.len_, hts, run_ty hu, goInt]
    · cases he
  · rename_i k e hu
    split at he
    · cases he; rw [RelV] at hx; subst hx
      exact ⟨.int .i64 0, by simp [Builtin.len_, hts, run_ty hu, goInt], RelV.int⟩
    · cases he
  · cases he
def capV (P : Program) (t : TypeId) (x : V) : Option V :=
  match P.underlying t with
  | some (.slice _) => match x with
    | .nils => some (.int .i64 (Int.ofNat 0))
    | .sl _ _ _ (.ex n) => some (.int .i64 (Int.ofNat n))
    | _ => none
  | _ => none
theorem cap_ok {P : Program} {w : World} {ρ : Rho} {t ty x a v} {ts : Array TypeId} (hts : ts[0]? = some t) (hx : RelV ρ x a) (he : capV P t x = some v) : ∃ y, (Builtin.cap_ ts ty #[a]).run P w = .ok y w ∧ RelV ρ v y := by
  unfold capV at he
  split at he
  · rename_i e hu
    split at he
    · cases he; rw [RelV] at hx; subst hx
      exact ⟨.int .i64 0, by simp [Builtin.cap_, hts, run_ty hu, goInt], RelV.int⟩
    · cases he; rw [RelV] at hx; obtain ⟨r, c, hr, rfl, _⟩ := hx
      refine ⟨_, ?_, RelV.int⟩
      simp [Builtin.cap_, hts, run_ty hu, goInt, Cap.val]
    · cases he
  · cases he
/-- The least or greatest of some numbers. -/
def mmV (least : Bool) : V → List V → Option V
  | .int k a, [] => some (.int k a)
  | .int k a, .int k' b :: vs => match least with
    | true => mmV least (.int k (if b < a then b else a)) vs
    | false => mmV least (.int k (if b > a then b else a)) vs
  | _, _ => none
theorem min_ok {P : Program} {w : World} {ρ : Rho} : ∀ (vs : List V) (xs : List Value) (a : V) (x : Value) (v : V), RelV ρ a x → RelL ρ vs xs → mmV true a vs = some v → ∃ y, (xs.foldlM Builtin.min2 x : Sem Value).run P w = .ok y w ∧ RelV ρ v y
  | [], xs, a, x, v, ha, hv, he => by
    rw [RelL] at hv; subst hv
    unfold mmV at he
    split at he
    · cases he; exact ⟨x, by simp, ha⟩
    · rename_i heq; cases heq
    · cases he
  | u :: vs, xs, a, x, v, ha, hv, he => by
    rw [RelL] at hv
    obtain ⟨y, ys, rfl, h1, h2⟩ := hv
    unfold mmV at he
    split at he
    · rename_i heq; cases heq
    · rename_i k p k' q vs' heq
      cases heq
      rw [RelV] at ha h1; subst ha h1
      obtain ⟨z, h3, h4⟩ := min_ok (P := P) (w := w) vs ys (.int k (if q < p then q else p)) _ v RelV.int h2 he
      exact ⟨z, by simp [List.foldlM_cons, Builtin.min2, h3], h4⟩
    · cases he
theorem max_ok {P : Program} {w : World} {ρ : Rho} : ∀ (vs : List V) (xs : List Value) (a : V) (x : Value) (v : V), RelV ρ a x → RelL ρ vs xs → mmV false a vs = some v → ∃ y, (xs.foldlM Builtin.max2 x : Sem Value).run P w = .ok y w ∧ RelV ρ v y
  | [], xs, a, x, v, ha, hv, he => by
    rw [RelL] at hv; subst hv
    unfold mmV at he
    split at he
    · cases he; exact ⟨x, by simp, ha⟩
    · rename_i heq; cases heq
    · cases he
  | u :: vs, xs, a, x, v, ha, hv, he => by
    rw [RelL] at hv
    obtain ⟨y, ys, rfl, h1, h2⟩ := hv
    unfold mmV at he
    split at he
    · rename_i heq; cases heq
    · rename_i k p k' q vs' heq
      cases heq
      rw [RelV] at ha h1; subst ha h1
      obtain ⟨z, h3, h4⟩ := max_ok (P := P) (w := w) vs ys (.int k (if q > p then q else p)) _ v RelV.int h2 he
      exact ⟨z, by simp [List.foldlM_cons, Builtin.max2, h3], h4⟩
    · cases he

/-! equality -/
mutual
def eqV (P : Program) : Nat → TypeId → V → V → Option Bool
  | 0, _, _, _ => none
  | d + 1, t, x, y => match P.underlying t with
    | none => none
    | some dt => match dt, x, y with
      | .bool, .bool a, .bool b => some (a == b)
      | .int _, .int k a, .int k' b => match decide (k = k') with
        | true => some (a == b)
        | false => none
      | .string, .str a, .str b => some (a == b)
      | .pointer _, .nilp, .nilp => some true
      | .pointer _, .nilp, .ptr _ _ => some false
      | .pointer _, .ptr _ _, .nilp => some false
      | .slice _, .nils, .nils => some true
      | .slice _, .nils, .sl _ _ _ _ => some false
      | .slice _, .sl _ _ _ _, .nils => some false
      | .map _ _, .nilm, .nilm => some true
      | .map _ _, .nilm, .mp _ => some false
      | .map _ _, .mp _, .nilm => some false
      | .func _ _ _, .nilf, .nilf => some true
      | .func _ _ _, .fn _ _ _, .nilf => some false
      | .func _ _ _, .nilf, .fn _ _ _ => some false
      | .interface _, .nili, .nili => some true
      | .interface _, .nili, .ifc _ _ => some false
      | .interface _, .ifc _ _, .nili => some false
      | .interface _, .ifc tx vx, .ifc ty vy => match Nat.beq tx ty with
        | false => some false
        | true => match P.info? tx with
          | some i => match i.comparable with
            | true => eqV P d tx vx vy
            | false => none
          | none => none
      | .struct fs, .agg xs, .agg ys => match P.stoodInHeld t with
        | true => none
        | false => eqFs P d fs.toList xs ys
      | .array len e, .agg xs, .agg ys => match P.info? e with
        | some i => eqAs P d e i.size xs ys (List.range' 0 len)
        | none => none
      | _, _, _ => none
def eqFs (P : Program) : Nat → List Field → List V → List V → Option Bool
  | 0, _, _, _ => none
  | d + 1, [], _, _ => some true
  | d + 1, f :: fs, xs, ys => match f.name == "_" with
    | true => eqFs P d fs xs ys
    | false => match partV P f.type xs f.offset with
      | none => none
      | some a => match partV P f.type ys f.offset with
        | none => none
        | some b => match eqV P d f.type a b with
          | none => none
          | some false => some false
          | some true => eqFs P d fs xs ys
def eqAs (P : Program) : Nat → TypeId → Nat → List V → List V → List Nat → Option Bool
  | 0, _, _, _, _, _ => none
  | d + 1, _, _, _, _, [] => some true
  | d + 1, e, n, xs, ys, i :: is => match partV P e xs (Nat.mul i n) with
    | none => none
    | some a => match partV P e ys (Nat.mul i n) with
      | none => none
      | some b => match eqV P d e a b with
        | none => none
        | some false => some false
        | some true => eqAs P d e n xs ys is
end
/-- Fields compared, one behind another. -/
def cmpFs (D : Nat) (xs ys : Array Value) : List Field → Sem Bool
  | [] => pure true
  | f :: fs => if f.name ≠ "_" then do
      if !(← Op.equalIn D f.type (← part f.type xs f.offset) (← part f.type ys f.offset)) then pure false else cmpFs D xs ys fs
    else cmpFs D xs ys fs
def cmpAs (D : Nat) (e : TypeId) (n : Nat) (xs ys : Array Value) : List Nat → Sem Bool
  | [] => pure true
  | i :: is => do
      if !(← Op.equalIn D e (← part e xs (i * n)) (← part e ys (i * n))) then pure false else cmpAs D e n xs ys is
theorem run_equal_struct (P : Program) (w : World) (D : Nat) (t : TypeId) (fs : Array Field) (xs ys : Array Value) (ht : P.underlying t = some (.struct fs)) (hp : P.stoodInHeld t = false) :
    (Op.equalIn (D + 1) t (.agg xs) (.agg ys)).run P w = (cmpFs D xs ys fs.toList).run P w := by
  simp only [Op.equalIn, Sem.run_bind, run_ty ht, Result.andThen_ok, run_program, hp]
  rw [← Array.forIn_toList]
  generalize fs.toList = l
  simp only [Bool.false_eq_true, if_false, Sem.run_bind, Sem.run_pure, Result.andThen_ok]
  induction l generalizing w with
  | nil => simp [cmpFs]
  | cons f fs ih =>
    simp only [List.forIn_cons, cmpFs]
    by_cases hn : f.name = "_"
    · simp only [hn, ne_eq, not_true, if_false, Sem.run_bind, Sem.run_pure, Result.andThen_ok]
      simpa using ih w
    · simp only [hn, ne_eq, not_false_eq_true, if_true, Sem.run_bind]
      generalize (part f.type xs f.offset).run P w = r1
      cases r1 with
      | halt x w1 => simp [Result.andThen]
      | ok a w1 =>
        simp only [Result.andThen_ok]
        generalize (part f.type ys f.offset).run P w1 = r2
        cases r2 with
        | halt x w2 => simp [Result.andThen]
        | ok b w2 =>
          simp only [Result.andThen_ok]
          generalize (Op.equalIn D f.type a b).run P w2 = r3
          cases r3 with
          | halt x w3 => simp [Result.andThen]
          | ok r w3 =>
            cases r
            · simp [Sem.run_bind]
            · simp only [Result.andThen_ok, Bool.not_true, Bool.false_eq_true, if_false, Sem.run_pure, Sem.run_bind]
              simpa using ih w3
theorem run_equal_array (P : Program) (w : World) (D : Nat) (t e : TypeId) (len n : Nat) (xs ys : Array Value) (ht : P.underlying t = some (.array len e)) (hs : (sizeOf e).run P w = .ok n w) :
    (Op.equalIn (D + 1) t (.agg xs) (.agg ys)).run P w = (cmpAs D e n xs ys (List.range' 0 len)).run P w := by
  simp only [Op.equalIn, Sem.run_bind, run_ty ht, Result.andThen_ok, hs]
  rw [Std.Legacy.Range.forIn_eq_forIn_range']
  simp only [Std.Legacy.Range.size, Nat.sub_zero, Nat.add_sub_cancel, Nat.div_one]
  generalize List.range' 0 len 1 = l
  clear hs
  induction l generalizing w with
  | nil => simp [cmpAs]
  | cons i is ih =>
    simp only [List.forIn_cons, cmpAs, Sem.run_bind]
    generalize (part e xs (i * n)).run P w = r1
    cases r1 with
    | halt x w1 => simp [Result.andThen]
    | ok a w1 =>
      simp only [Result.andThen_ok]
      generalize (part e ys (i * n)).run P w1 = r2
      cases r2 with
      | halt x w2 => simp [Result.andThen]
      | ok b w2 =>
        simp only [Result.andThen_ok]
        generalize (Op.equalIn D e a b).run P w2 = r3
        cases r3 with
        | halt x w3 => simp [Result.andThen]
        | ok r w3 =>
          cases r
          · simp [Sem.run_bind]
          · simp only [Result.andThen_ok, Bool.not_true, Bool.false_eq_true, if_false, Sem.run_pure, Sem.run_bind]
            simpa using ih w3

set_option maxHeartbeats 4000000 in
theorem eq_ok {P : Program} {w : World} {ρ : Rho} : ∀ (d : Nat),
    (∀ t x y r a b, RelV ρ x a → RelV ρ y b → eqV P d t x y = some r → ∀ D, d ≤ D → (Op.equalIn D t a b).run P w = .ok r w) ∧
    (∀ fs xs ys r as bs, RelL ρ xs as → RelL ρ ys bs → eqFs P d fs xs ys = some r → ∀ D, d ≤ D → (cmpFs D as.toArray bs.toArray fs).run P w = .ok r w) ∧
    (∀ e n is xs ys r as bs, RelL ρ xs as → RelL ρ ys bs → eqAs P d e n xs ys is = some r → ∀ D, d ≤ D → (cmpAs D e n as.toArray bs.toArray is).run P w = .ok r w)
  | 0 => ⟨fun _ _ _ _ _ _ _ _ h => by simp [eqV] at h, fun _ _ _ _ _ _ _ _ h => by simp [eqFs] at h, fun _ _ _ _ _ _ _ _ _ _ h => by simp [eqAs] at h⟩
  | d + 1 => by
    obtain ⟨ih1, ih2, ih3⟩ := eq_ok (P := P) (w := w) (ρ := ρ) d
    refine ⟨fun t x y r a b ha hb h D hD => ?_, fun fs xs ys r as bs ha hb h D hD => ?_, fun e n is xs ys r as bs ha hb h D hD => ?_⟩
    · obtain ⟨D, rfl⟩ : ∃ q, D = q + 1 := ⟨D - 1, by omega⟩
      have hD : d ≤ D := by omega
      rw [eqV] at h
      split at h
      · cases h
      · rename_i dt hu
        split at h
        · rw [RelV] at ha; rw [RelV] at hb; subst ha hb; cases h; simp [Op.equalIn, run_ty hu]
        · rw [RelV] at ha; rw [RelV] at hb; subst ha hb
          split at h
          · rename_i hk; have hk := of_decide_eq_true hk; subst hk; cases h; simp [Op.equalIn, run_ty hu]
          · cases h
        · rename_i p q
          rw [RelV] at ha; rw [RelV] at hb; subst ha hb; cases h
          have e1 : ((⟨p.toArray⟩ : ByteArray) == ⟨q.toArray⟩) = (p == q) := by
            show (p.toArray == q.toArray) = (p == q)
            simp
          simp [Op.equalIn, run_ty hu, e1]
        · rw [RelV] at ha; rw [RelV] at hb; subst ha hb; cases h; simp [Op.equalIn, run_ty hu]
        · rw [RelV] at ha; rw [RelV] at hb; obtain ⟨_, _, _, rfl⟩ := hb; subst ha; cases h; simp [Op.equalIn, run_ty hu]
        · rw [RelV] at ha; rw [RelV] at hb; obtain ⟨_, _, _, rfl⟩ := ha; subst hb; cases h; simp [Op.equalIn, run_ty hu]
        · rw [RelV] at ha; rw [RelV] at hb; subst ha hb; cases h; simp [Op.equalIn, run_ty hu]
        · rw [RelV] at ha; rw [RelV] at hb; obtain ⟨_, _, _, rfl, _⟩ := hb; subst ha; cases h; simp [Op.equalIn, run_ty hu]
        · rw [RelV] at ha; rw [RelV] at hb; obtain ⟨_, _, _, rfl, _⟩ := ha; subst hb; cases h; simp [Op.equalIn, run_ty hu]
        · rw [RelV] at ha; rw [RelV] at hb; subst ha hb; cases h; simp [Op.equalIn, run_ty hu]
        · rw [RelV] at ha; rw [RelV] at hb; obtain ⟨_, _, _, rfl⟩ := hb; subst ha; cases h; simp [Op.equalIn, run_ty hu]
        · rw [RelV] at ha; rw [RelV] at hb; obtain ⟨_, _, _, rfl⟩ := ha; subst hb; cases h; simp [Op.equalIn, run_ty hu]
        · rw [RelV] at ha; rw [RelV] at hb; subst ha hb; cases h; simp [Op.equalIn, run_ty hu]
        · rw [RelV] at ha; rw [RelV] at hb; obtain ⟨_, _, rfl, _⟩ := ha; subst hb; cases h; simp [Op.equalIn, run_ty hu]
        · rw [RelV] at ha; rw [RelV] at hb; obtain ⟨_, _, rfl, _⟩ := hb; subst ha; cases h; simp [Op.equalIn, run_ty hu]
        · rw [RelV] at ha; rw [RelV] at hb; subst ha hb; cases h; simp [Op.equalIn, run_ty hu]
        · rw [RelV] at ha; rw [RelV] at hb; obtain ⟨_, rfl, _⟩ := hb; subst ha; cases h; simp [Op.equalIn, run_ty hu]
        · rw [RelV] at ha; rw [RelV] at hb; obtain ⟨_, rfl, _⟩ := ha; subst hb; cases h; simp [Op.equalIn, run_ty hu]
        · rename_i tx vx ty vy
          rw [RelV] at ha; rw [RelV] at hb
          obtain ⟨p, rfl, hp⟩ := ha
          obtain ⟨q, rfl, hq⟩ := hb
          split at h
          · rename_i hne
            have hne : ¬ tx = ty := fun e => by subst e; simp at hne
            cases h
            simp [Op.equalIn, run_ty hu, hne]
          · rename_i he
            have he := Nat.eq_of_beq_eq_true he
            subst he
            split at h
            · rename_i i hi
              split at h
              · rename_i hc
                have := ih1 tx vx vy r p q hp hq h D hD
                simp [Op.equalIn, run_ty hu, run_info hi, hc, this]
              · cases h
            · cases h
        · rename_i fs xs ys
          rw [RelV] at ha; rw [RelV] at hb
          obtain ⟨as, rfl, ha⟩ := ha
          obtain ⟨bs, rfl, hb⟩ := hb
          split at h
          · cases h
          · rename_i hp
            rw [run_equal_struct P w D t fs _ _ hu hp]
            exact ih2 _ _ _ _ _ _ ha hb h D hD
        · rename_i len e xs ys
          rw [RelV] at ha; rw [RelV] at hb
          obtain ⟨as, rfl, ha⟩ := ha
          obtain ⟨bs, rfl, hb⟩ := hb
          split at h
          · rename_i i hi
            rw [run_equal_array P w D t e len i.size _ _ hu (run_size hi)]
            exact ih3 _ _ _ _ _ _ _ _ ha hb h D hD
          · cases h
        · cases h
    · cases fs with
      | nil => simp only [eqFs] at h; cases h; simp [cmpFs]
      | cons f fs =>
        simp only [eqFs] at h
        split at h
        · rename_i hn
          have hn : f.name = "_" := by simpa using hn
          simp only [cmpFs, hn, ne_eq, not_true, if_false]
          exact ih2 _ _ _ _ _ _ ha hb h D (by omega)
        · rename_i hn
          have hn : ¬ f.name = "_" := by simpa using hn
          split at h
          · cases h
          · rename_i p hp
            split at h
            · cases h
            · rename_i q hq
              obtain ⟨p', p1, p2⟩ := part_ok (P := P) (w := w) ha hp
              obtain ⟨q', q1, q2⟩ := part_ok (P := P) (w := w) hb hq
              split at h
              · cases h
              · rename_i he
                cases h
                have := ih1 _ _ _ _ _ _ p2 q2 he D (by omega)
                simp [cmpFs, hn, p1, q1, this]
              · rename_i he
                have h1 := ih1 _ _ _ _ _ _ p2 q2 he D (by omega)
                have h2 := ih2 _ _ _ _ _ _ ha hb h D (by omega)
                simp [cmpFs, hn, p1, q1, h1, h2]
    · cases is with
      | nil => simp only [eqAs] at h; cases h; simp [cmpAs]
      | cons i is =>
        simp only [eqAs] at h
        split at h
        · cases h
        · rename_i p hp
          split at h
          · cases h
          · rename_i q hq
            obtain ⟨p', p1, p2⟩ := part_ok (P := P) (w := w) ha hp
            obtain ⟨q', q1, q2⟩ := part_ok (P := P) (w := w) hb hq
            have p1 : (part e as.toArray (i * n)).run P w = .ok p' w := p1
            have q1 : (part e bs.toArray (i * n)).run P w = .ok q' w := q1
            split at h
            · cases h
            · rename_i he
              cases h
              have := ih1 _ _ _ _ _ _ p2 q2 he D (by omega)
              simp [cmpAs, p1, q1, this]
            · rename_i he
              have h1 := ih1 _ _ _ _ _ _ p2 q2 he D (by omega)
              have h2 := ih3 _ _ _ _ _ _ _ _ ha hb h D (by omega)
              simp [cmpAs, p1, q1, h1, h2]
def isConstO : Operand → Bool
  | .const _ => true
  | _ => false
/-- Two operands, and the operator between them. -/
def binV (P : Program) (op : BinOp) (t : TypeId) (xo yo : Operand) (x y : V) : Option V :=
  match x, y with
  | .int k a, .int k' b => match isShift op with
    | true => shiftV op k a b
    | false => match decide (k = k') with
      | true => arithV op k a b
      | false => none
  | .str a, .str b => strV op a b
  | _, _ => match (match x, y with
      | .nili, .nili => isConstO xo || isConstO yo
      | .agg _, .agg _ => !(P.eqGuardType P.depth t)
      | _, _ => true) with
    | false => none
    | true => match op with
      | .eql => match eqV P 30 t x y with
        | some b => some (.bool b)
        | none => none
      | .neq => match eqV P 30 t x y with
        | some b => some (.bool (!b))
        | none => none
      | _ => none
theorem eqGuard_other {P : Program} {w : World} {op : BinOp} {t : TypeId} {xo yo : Operand} (a b : Value) (h1 : ∀ p q, a = .agg p → b = .agg q → False) (h2 : a = .nilIface → b = .nilIface → False) : (eqGuard op t xo yo a b).run P w = .ok () w := by
  unfold eqGuard
  cases op <;> first
    | rfl
    | (rw [if_neg (by decide)]
       split
       · exact (h2 rfl rfl).elim
       · exact (h1 _ _ rfl rfl).elim
       · rfl)
theorem eqGuard_nil {P : Program} {w : World} {op : BinOp} {t : TypeId} {xo yo : Operand} (h : (isConstO xo || isConstO yo) = true) : (eqGuard op t xo yo .nilIface .nilIface).run P w = .ok () w := by
  unfold eqGuard
  cases op <;> first
    | rfl
    | (rw [if_neg (by decide)]
       cases xo <;> cases yo <;> first | rfl | (simp [isConstO] at h))
theorem eqGuard_agg {P : Program} {w : World} {op : BinOp} {t : TypeId} {xo yo : Operand} {p q : Array Value} (h : P.eqGuardType P.depth t = false) : (eqGuard op t xo yo (.agg p) (.agg q)).run P w = .ok () w := by
  unfold eqGuard
  cases op <;> first
    | rfl
    | (rw [if_neg (by decide)]; simp [h])
theorem bin_ok {P : Program} {w : World} {ρ : Rho} {op t xo yo x y a b v} (ha : RelV ρ x a) (hb : RelV ρ y b) (h : binV P op t xo yo x y = some v) : ∃ z, (do eqGuard op t xo yo a b; binOp op t a b : Sem Value).run P w = .ok z w ∧ RelV ρ v z := by
  unfold binV at h
  split at h
  · rename_i k p k' q
    rw [RelV] at ha; rw [RelV] at hb; subst ha hb
    have hg : ∀ u v : Int, (eqGuard op t xo yo (.int k u) (.int k' v)).run P w = .ok () w := fun u v => by
      unfold eqGuard; cases op <;> simp
    split at h
    · obtain ⟨z, h1, h2⟩ := shift_ok (P := P) (w := w) (ρ := ρ) (k' := k') t h
      exact ⟨z, by rw [Sem.run_bind, hg]; exact h1, h2⟩
    · rename_i hs
      split at h
      · rename_i hk
        have hk := of_decide_eq_true hk
        subst hk
        obtain ⟨z, h1, h2⟩ := arith_ok (P := P) (w := w) (ρ := ρ) t hs h
        exact ⟨z, by rw [Sem.run_bind, hg]; exact h1, h2⟩
      · cases h
  · rename_i p q
    rw [RelV] at ha; rw [RelV] at hb; subst ha hb
    have hg : (eqGuard op t xo yo (.string ⟨p.toArray⟩) (.string ⟨q.toArray⟩)).run P w = .ok () w := by
      unfold eqGuard; cases op <;> simp
    obtain ⟨z, h1, h2⟩ := str_ok (P := P) (w := w) (ρ := ρ) t h
    exact ⟨z, by rw [Sem.run_bind, hg]; exact h1, h2⟩
  · rename_i hni hns
    split at h
    · cases h
    · rename_i hgd
      have hg : (eqGuard op t xo yo a b).run P w = .ok () w := by
        split at hgd
        · rw [RelV] at ha; rw [RelV] at hb; subst ha hb
          exact eqGuard_nil hgd
        · rw [RelV] at ha; rw [RelV] at hb
          obtain ⟨as, rfl, _⟩ := ha
          obtain ⟨bs, rfl, _⟩ := hb
          have hgd : P.eqGuardType P.depth t = false := by simpa using hgd
          exact eqGuard_agg hgd
        · rename_i h1 h2
          refine eqGuard_other a b (fun p q ea eb => ?_) (fun ea eb => ?_)
          · subst ea eb
            cases x <;> simp [RelV] at ha
            cases y <;> simp [RelV] at hb
            exact h2 _ _ rfl rfl
          · subst ea eb
            cases x <;> simp [RelV] at ha
            cases y <;> simp [RelV] at hb
            exact h1 rfl rfl
      have hbin : ∀ r, eqV P 30 t x y = some r → (binOp .eql t a b).run P w = .ok (.bool r) w ∧ (binOp .neq t a b).run P w = .ok (.bool (!r)) w := fun r hr => by
        have he := (eq_ok (P := P) (w := w) (ρ := ρ) 30).1 t x y r a b ha hb hr 10000 (by omega)
        have hequal : (Op.equal t a b).run P w = .ok r w := he
        have ni : ∀ k n k' n', ¬ (a = .int k n ∧ b = .int k' n') := fun k n k' n' hh => by
          obtain ⟨rfl, rfl⟩ := hh
          cases x <;> simp [RelV] at ha
          cases y <;> simp [RelV] at hb
          exact hni _ _ _ _ rfl rfl
        have ns : ∀ k n, ¬ (a = .string k ∧ b = .string n) := fun k n hh => by
          obtain ⟨rfl, rfl⟩ := hh
          cases x <;> simp [RelV] at ha
          cases y <;> simp [RelV] at hb
          exact hns _ _ rfl rfl
        have nf : ∀ k n, a ≠ .float k n := fun k n hh => by subst hh; cases x <;> simp [RelV] at ha
        have nc : ∀ k n n', a ≠ .complex k n n' := fun k n n' hh => by subst hh; cases x <;> simp [RelV] at ha
        constructor
        · unfold binOp
          split <;> first
            | (exact absurd ⟨rfl, rfl⟩ (ni _ _ _ _))
            | (exact absurd ⟨rfl, rfl⟩ (ns _ _))
            | (exact absurd rfl (nf _ _))
            | (exact absurd rfl (nc _ _ _))
            | (simp_all; done)
        · unfold binOp
          split <;> first
            | (exact absurd ⟨rfl, rfl⟩ (ni _ _ _ _))
            | (exact absurd ⟨rfl, rfl⟩ (ns _ _))
            | (exact absurd rfl (nf _ _))
            | (exact absurd rfl (nc _ _ _))
            | (simp_all; done)
      split at h
      · split at h
        · rename_i r hr
          cases h
          exact ⟨_, by rw [Sem.run_bind, hg]; exact (hbin r hr).1, RelV.bool⟩
        · cases h
      · split at h
        · rename_i r hr
          cases h
          exact ⟨_, by rw [Sem.run_bind, hg]; exact (hbin r hr).2, RelV.bool⟩
        · cases h
      · cases h
end Go.CE
