/-
  SYMBOLIC EVALUATION, 5: from a call's contract to a law's row: plain arguments are opened, and read as they did behind the call.
-/
import Derived.Test.YtbkclmbfblncoaaGreatDoorCeSd
import Derived.Test.YtbkclmbfblncoaaGreatDoorCeZ
import Derived.ProofKit
import Derived.LaidMore
import Derived.OpenShut
import Derived.Stop.Joined
import Derived.SevenTiedAt
import Derived.WideKeyArgs
import Derived.KernelRfl
noncomputable section
namespace Go.CE
open Go Go.RowKit Go.ChangeShapes Go.WideShapes Go.ChangeAt
set_option linter.unusedSimpArgs false
set_option linter.unusedVariables false

/-! arguments -/
theorem V.rel_int {ρ : Rho} {k : IntKind} {n : Int} : RelV ρ (.int k n) (.int k n) := by rw [RelV]
theorem V.rel_bool {ρ : Rho} {b : Bool} : RelV ρ (.bool b) (.bool b) := by rw [RelV]
def cellTyB (P : Program) (u : TypeId) : Ty → Bool
  | .i k => match P.underlying u with
    | some (.int k') => decide (k' = k)
    | _ => false
  | .b => match P.underlying u with
    | some .bool => true
    | _ => false
  | .s => match P.underlying u with
    | some .string => true
    | _ => false
  | _ => false
def cellsTyB (P : Program) : List TypeId → Ty → Bool
  | [], .nil => true
  | u :: us, .cons a l => cellTyB P u a && cellsTyB P us l
  | _, _ => false
def argTyB (P : Program) (t : TypeId) : Ty → Bool
  | .agg l => match P.underlying t with
    | some (.struct _) => match P.cellTypes P.depth t with
      | some ts => Nat.beq (P.cellsOf t) ts.length && cellsTyB P ts l
      | none => false
    | _ => false
  | a => cellTyB P t a
def argsTyB (P : Program) : List TypeId → Ty → Bool
  | [], .nil => true
  | t :: ts, .cons a l => argTyB P t a && argsTyB P ts l
  | _, _ => false
theorem cell_open {P : Program} {w : World} {r : Reach} {base : Nat} {u : TypeId} {v : Value} {a : Ty} (hb : cellTyB P u a = true) (h : Cell.okWide P w r base u v) : ∃ x : a.T, ∀ ρ, RelV ρ (inT a x) v := by
  cases a with
  | i k =>
    have hb : (match P.underlying u with | some (.int k') => decide (k' = k) | _ => false) = true := hb
    split at hb
    · rename_i k' hu
      obtain rfl := of_decide_eq_true hb
      unfold Cell.okWide at h
      rw [hu] at h
      simp only at h
      unfold Cell.ok at h
      rw [hu] at h
      cases v <;> try (exact h.elim)
      simp only at h
      obtain ⟨rfl, _⟩ := h
      exact ⟨_, fun ρ => V.rel_int⟩
    · cases hb
  | b =>
    have hb : (match P.underlying u with | some .bool => true | _ => false) = true := hb
    split at hb
    · rename_i hu
      unfold Cell.okWide at h
      rw [hu] at h
      simp only at h
      unfold Cell.ok at h
      rw [hu] at h
      cases v <;> try (exact h.elim)
      exact ⟨_, fun ρ => V.rel_bool⟩
    · cases hb
  | s =>
    have hb : (match P.underlying u with | some .string => true | _ => false) = true := hb
    split at hb
    · rename_i hu
      unfold Cell.okWide at h
      rw [hu] at h
      simp only at h
      unfold Cell.ok at h
      rw [hu] at h
      cases v <;> try (exact h.elim)
      rename_i s
      refine ⟨s.data.toList, fun ρ => ?_⟩
      show RelV ρ (V.str s.data.toList) (.string s)
      rw [RelV]
    · cases hb
  | _ => cases hb
theorem cells_open {P : Program} {w : World} {r : Reach} {base : Nat} : ∀ {ts : List TypeId} {l : Ty} {cs : List Value}, cellsTyB P ts l = true → cs.length = ts.length → (∀ (i : Nat) (v : Value) (u : TypeId), cs[i]? = some v → ts[i]? = some u → Cell.okWide P w r base u v) → ∃ x : l.T, ∀ ρ, RelL ρ (inTs l x) cs
  | [], l, cs, hb, hl, h => by
    cases l <;> try (cases hb)
    refine ⟨(), fun ρ => ?_⟩
    have : cs = [] := List.eq_nil_of_length_eq_zero (by simpa using hl)
    subst this
    show RelL ρ [] []
    rw [RelL]
  | u :: us, l, [], hb, hl, h => by simp at hl
  | u :: us, l, c :: cs, hb, hl, h => by
    cases l <;> try (cases hb; done)
    rename_i a l
    have hb : (cellTyB P u a && cellsTyB P us l) = true := hb
    rw [Bool.and_eq_true] at hb
    obtain ⟨x, hx⟩ := cell_open hb.1 (h 0 c u rfl rfl)
    obtain ⟨y, hy⟩ := cells_open (ts := us) (l := l) (cs := cs) hb.2 (by simpa using hl) (fun i v u h1 h2 => h (i + 1) v u (by simpa using h1) (by simpa using h2))
    refine ⟨(x, y), fun ρ => ?_⟩
    show RelL ρ (inT a x :: inTs l y) (c :: cs)
    exact .cons (hx ρ) (hy ρ)
theorem arg_open {P : Program} {w : World} {r : Reach} {base : Nat} {t : TypeId} {v : Value} {a : Ty} (hb : argTyB P t a = true) (h : Value.okWide P w r base t v) : ∃ x : a.T, ∀ ρ, RelV ρ (inT a x) v := by
  have plain : ∀ {a : Ty}, cellTyB P t a = true → ∃ x : a.T, ∀ ρ, RelV ρ (inT a x) v := fun {a} hb => by
    have h' : Cell.okWide P w r base t v := by
      unfold Value.okWide at h
      cases a with
      | i k =>
        have hb : (match P.underlying t with | some (.int k') => decide (k' = k) | _ => false) = true := hb
        split at hb
        · rename_i hu; rw [hu] at h; exact h
        · cases hb
      | b =>
        have hb : (match P.underlying t with | some .bool => true | _ => false) = true := hb
        split at hb
        · rename_i hu; rw [hu] at h; exact h
        · cases hb
      | s =>
        have hb : (match P.underlying t with | some .string => true | _ => false) = true := hb
        split at hb
        · rename_i hu; rw [hu] at h; exact h
        · cases hb
      | _ => cases hb
    exact cell_open hb h'
  cases a with
  | agg l =>
    have hb : (match P.underlying t with | some (.struct _) => (match P.cellTypes P.depth t with | some ts => Nat.beq (P.cellsOf t) ts.length && cellsTyB P ts l | none => false) | _ => false) = true := hb
    split at hb
    · rename_i fs hu
      split at hb
      · rename_i ts hts
        rw [Bool.and_eq_true] at hb
        have hn := Nat.eq_of_beq_eq_true hb.1
        unfold Value.okWide at h
        rw [hu] at h
        obtain ⟨cs, rfl, hsz, ts', hts', _, hc⟩ := h
        rw [hts] at hts'; cases hts'
        obtain ⟨x, hx⟩ := cells_open (w := w) (r := r) (base := base) (cs := cs.toList) hb.2 (by simpa using hsz.trans hn) (fun i v u h1 h2 => by
          have hi : i < ts.length := (List.getElem?_eq_some_iff.1 h2).1
          obtain ⟨u', h3, h4⟩ := hc i v (by simpa using h1)
          rw [Nat.mod_eq_of_lt hi, h2] at h3; cases h3
          exact h4)
        refine ⟨x, fun ρ => ?_⟩
        show RelV ρ (V.agg (inTs l x)) (.agg cs)
        rw [RelV]
        exact ⟨cs.toList, by simp, hx ρ⟩
      · cases hb
    · cases hb
  | i k => exact plain hb
  | b => exact plain hb
  | s => exact plain hb
  | lit _ => exact plain hb
  | nil => cases hb
  | cons _ _ => cases hb
  | tup _ => cases hb
theorem args_open {P : Program} {w : World} {r : Reach} {base : Nat} : ∀ {ts : List TypeId} {l : Ty} {vs : List Value}, argsTyB P ts l = true → vs.length = ts.length → (∀ (j : Nat) (t : TypeId) (v : Value), ts[j]? = some t → vs[j]? = some v → Value.okWide P w r base t v) → ∃ x : l.T, ∀ ρ, RelL ρ (inTs l x) vs
  | [], l, vs, hb, hl, h => by
    cases l <;> try (cases hb)
    refine ⟨(), fun ρ => ?_⟩
    have : vs = [] := List.eq_nil_of_length_eq_zero (by simpa using hl)
    subst this
    show RelL ρ [] []
    rw [RelL]
  | t :: ts, l, [], hb, hl, h => by simp at hl
  | t :: ts, l, v :: vs, hb, hl, h => by
    cases l <;> try (cases hb; done)
    rename_i a l
    have hb : (argTyB P t a && argsTyB P ts l) = true := hb
    rw [Bool.and_eq_true] at hb
    obtain ⟨x, hx⟩ := arg_open hb.1 (h 0 t v rfl rfl)
    obtain ⟨y, hy⟩ := args_open (ts := ts) (l := l) (vs := vs) hb.2 (by simpa using hl) (fun j t v h1 h2 => h (j + 1) t v (by simpa using h1) (by simpa using h2))
    refine ⟨(x, y), fun ρ => ?_⟩
    show RelL ρ (inT a x :: inTs l y) (v :: vs)
    exact .cons (hx ρ) (hy ρ)

/-! what is read behind the call -/
theorem trodAll_len {H : Type} {enc : TypeId × Value → H} {P : Program} {W : World} {sp : Nat → Bool} {held : Bool} {base : Nat} : ∀ {ts : List TypeId} {vs : List Value} {ds : List (DataW H)} {ps : List MemPlace}, DataW.TrodAll enc P W base sp held ts vs ds ps → vs.length = ts.length
  | [], _, _, _, h => by
    obtain ⟨rfl, rfl, _⟩ := trodAll_nil h
    rfl
  | _ :: _, _, _, _, h => by
    obtain ⟨v, vs1, d, ds1, a, b, rfl, rfl, rfl, _, h2⟩ := trodAll_cons h
    rw [List.length_cons, List.length_cons, trodAll_len h2]
def readB (P : Program) : List TypeId → Bool
  | [] => true
  | t :: ts => (P.readableRec t && decide (t < P.types.size)) && readB P ts
theorem args_stay {H : Type} {enc : TypeId × Value → H} {P : Program} (hl : laidOutB P = true) {W W' : World} (hb : Below W.heap.size W W') {sp : Nat → Bool} : ∀ {ts : List TypeId} {vs : List Value} {ds : List (DataW H)} {ps : List MemPlace}, readB P ts = true →
    DataW.TrodAll enc P W 0 (fun _ => true) true ts vs ds ps → (∀ p ∈ ps, p.block < W.heap.size) → (∀ p ∈ ps, sp p.block = true) → DataW.TrodAll enc P W' 0 sp true ts vs ds ps
  | [], _, _, _, _, h, _, _ => by
    obtain ⟨rfl, rfl, rfl⟩ := trodAll_nil h
    exact trodAll_mk0
  | t :: ts, _, _, _, hr, h, hlt, hs => by
    obtain ⟨v, vs', d, ds', p, q, rfl, rfl, rfl, h1, h2⟩ := trodAll_cons h
    have hr : ((P.readableRec t && decide (t < P.types.size)) && readB P ts) = true := hr
    rw [Bool.and_eq_true, Bool.and_eq_true] at hr
    exact ⟨p, q, WideElems.Trod_stays hl hr.1.1 (of_decide_eq_true hr.1.2) h1 (fun x hx => hb.same (hlt x (by simp [hx]))) (fun x hx => hs x (by simp [hx])),
      args_stay hl hb hr.2 h2 (fun x hx => hlt x (by simp [hx])) (fun x hx => hs x (by simp [hx])), rfl⟩

/-! package variables that are laid -/
def litV {H : Type} : DataW H → V
  | .lit (.int k n) => .int k n
  | .lit (.string b) => .str b
  | .lit (.bool b) => .bool b
  | _ => .nilp
def elemB (P : Program) (e : TypeId) : Bool := match P.underlying e with
  | some (.int _) => true
  | some .string => true
  | _ => false
theorem holds_of_trod {P : Program} {W : World} {g : Nat} {t e : TypeId} {n fuel : Nat} {fr : Nat × Nat} {tt : TypeId} {ds : List (DataW Unit)} {ps : List MemPlace} {cs : Array Value} {base : Nat} {sp : Nat → Bool} {held : Bool} {enc : TypeId × Value → Unit} (hh : W.heap[g]? = some (.cells cs tt fr))
    (hu : P.underlying t = some (.array n e)) (hc : P.cellsOf e = 1) (hE : elemB P e = true) (hd : DataW.trod enc P W base sp held fuel t cs.toList = some (.agg ds, ps)) : Holds W g tt cs.size (ds.map litV) := by
  obtain ⟨xs, m1, hx0, hx1, hlen, hn, hel⟩ := DataW.trod_array hu hd
  have hxs : xs.map (fun x => x.1) = ds := by
    injection hx1 with e1 e2
    injection e1 with e1
    exact e1.symm
  refine ⟨cs, fr, hh, rfl, fun i v hv => ?_⟩
  rw [← hxs, List.map_map, List.getElem?_map] at hv
  cases hi : xs[i]? with
  | none => rw [hi] at hv; cases hv
  | some x =>
    rw [hi] at hv
    have hv : some (litV x.1) = some v := hv
    cases hv
    have hil : i < n := by
      have := (List.getElem?_eq_some_iff.1 hi).1
      omega
    have h3 := hel i hil
    rw [hi] at h3
    rw [hc, Nat.mul_one] at h3
    have cell : ∀ c, (cs.toList.drop i).take 1 = [c] → cs[i]? = some c := fun c e1 => by
      have : (cs.toList.drop i)[0]? = some c := by
        cases hd : cs.toList.drop i with
        | nil => simp [hd] at e1
        | cons a l => simp [hd] at e1; rw [e1]; rfl
      simpa using this
    unfold elemB at hE
    split at hE
    · rename_i k hk
      obtain ⟨j, e1, e2, _⟩ := DataW.trod_int hk h3
      rw [e2]
      exact ⟨_, cell _ e1, by rw [litV, RelV]⟩
    · rename_i hk
      obtain ⟨s, e1, e2, _⟩ := DataW.trod_string hk h3
      rw [e2]
      exact ⟨_, cell _ e1, by rw [litV, RelV]⟩
    · cases hE
theorem var_heap {P : Program} {W : World} {name : String} {g : Nat} {cs : Array Value} (hg : P.globalNamed name = some g) (h : W.var? P name = some cs) : ∃ tt fr, W.heap[g]? = some (.cells cs tt fr) := by
  unfold World.var? at h
  rw [hg] at h
  simp only [Option.bind_some] at h
  split at h
  · rename_i cs t fr hh
    cases h
    exact ⟨t, fr, hh⟩
  · cases h

/-! a contract of plain values, in any world -/
theorem pure_calls {P : Program} {G : Nat} {f : FuncId} {gl : List (Nat × List V)} {A R : Ty} {d : A.T → R.T} (h : SumOk P G f (pureE gl A R d)) {W : World} (hG : G ≤ W.heap.size) (hfine : glFine G gl = true)
    (hh : ∀ g vs, (g, vs) ∈ gl → ∃ t n, Holds W g t n vs) {x : A.T} {xs : List Value} (ha : ∀ ρ, RelL ρ (inTs A x) xs) (hA : outTs A (inTs A x) = some x) (hglB : ∀ tt nn, glB (memG G (glRows tt nn gl)) gl = true) : Calls P f xs.toArray W fun e W' => ∃ y, e = .returned y ∧ (∀ ρ, RelV ρ (inT R (d x)) y) ∧ Below W.heap.size W W' := by
  classical
  let tt : Nat → TypeId := fun g => if hg : ∃ t n, Holds W g t n [] then Classical.choose hg else 0
  let nn : Nat → Nat := fun g => if hg : ∃ t n, Holds W g t n [] then Classical.choose (Classical.choose_spec hg) else 0
  have uniq : ∀ {g t n vs t' n' vs'}, Holds W g t n vs → Holds W g t' n' vs' → t = t' ∧ n = n' := fun {g t n vs t' n' vs'} h1 h2 => by
    obtain ⟨xs1, f1, a1, b1, _⟩ := h1
    obtain ⟨xs2, f2, a2, b2, _⟩ := h2
    rw [a1] at a2; cases a2
    exact ⟨rfl, b1.symm.trans b2⟩
  have emp : ∀ {g t n vs}, Holds W g t n vs → Holds W g t n [] := fun {g t n vs} h1 => by
    obtain ⟨xs1, f1, a1, b1, _⟩ := h1
    exact ⟨xs1, f1, a1, b1, fun i v hv => by simp at hv⟩
  have at' : ∀ {g vs}, (g, vs) ∈ gl → Holds W g (tt g) (nn g) vs := fun {g vs} hm => by
    obtain ⟨t, n, h1⟩ := hh g vs hm
    have he : ∃ t n, Holds W g t n [] := ⟨t, n, emp h1⟩
    have h2 := Classical.choose_spec (Classical.choose_spec he)
    obtain ⟨e1, e2⟩ := uniq h1 h2
    have e3 : tt g = t := by show (if hg : ∃ t n, Holds W g t n [] then Classical.choose hg else 0) = t; rw [dif_pos he]; exact e1.symm
    have e4 : nn g = n := by show (if hg : ∃ t n, Holds W g t n [] then Classical.choose (Classical.choose_spec hg) else 0) = n; rw [dif_pos he]; exact e2.symm
    rw [e3, e4]; exact h1
  have hrm : RM (Fx.upto G W) W (rho0 G) (memG G (glRows tt nn gl)) W := memG_rm2 hG fun g t n vs hm => by
    have hmm : (g, vs) ∈ gl := glRows_mem hm
    obtain ⟨h1, _⟩ := glFine_mem hfine hmm
    have e : t = tt g ∧ n = nn g := by
      clear at' uniq emp hh hfine h hmm h1 hglB
      induction gl with
      | nil => cases hm
      | cons p l ih =>
        obtain ⟨g', vs'⟩ := p
        rw [glRows, List.mem_cons] at hm
        rcases hm with hm | hm
        · cases hm; exact ⟨rfl, rfl⟩
        · exact ih hm
    rw [e.1, e.2]
    exact ⟨⟨h1, h1⟩, at' hmm⟩
  have hgb : glB (memG G (glRows tt nn gl)) gl = true := hglB tt nn
  have he : pureE gl A R d (inTs A x) (memG G (glRows tt nn gl)) = some (inT R (d x), memG G (glRows tt nn gl)) := by
    unfold pureE
    rw [hA, hgb]
  obtain ⟨_, hc⟩ := h _ _ _ _ he
  refine (hc _ _ _ _ xs hrm (fun g hg => ⟨0, if_pos hg⟩) (ha _)).mono fun e W' ⟨ρ', y, h1, h2, h3, h4⟩ => ⟨y, h1, fun ρ => inT_flat R _ y h3, h4.below2⟩
end Go.CE
