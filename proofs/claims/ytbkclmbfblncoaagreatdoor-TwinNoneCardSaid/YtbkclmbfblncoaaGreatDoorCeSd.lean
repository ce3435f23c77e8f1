/-
  SYMBOLIC EVALUATION, 4: a ground, wherever it lies.
-/
import Derived.Test.YtbkclmbfblncoaaGreatDoorCeSc
noncomputable section
namespace Go.CE
open Go
set_option linter.unusedSimpArgs false
set_option linter.unusedVariables false

/-! a ground -/
structure GS where
  N : Int
  W : Int
  R : Int
  K : Int
  mt : Int
  n : Nat
  nb : Nat
  ws : Tr Int
  tg : TypeId
  ts : TypeId
def GS.upd (s : GS) (mt : Int) (ws : Tr Int) : GS := ⟨s.N, s.W, s.R, s.K, mt, s.n, s.nb, ws, s.tg, s.ts⟩
def gRow (s : GS) (q : Nat) : Blk := .row true s.tg 5 (Tr.fill [.ptr q 0, .int .i64 s.N, .int .i64 s.W, .int .i64 s.R, .int .i64 s.K] 0 .nil)
def sRow (s : GS) (a : Nat) : Blk := .row true s.ts 2 (Tr.fill [.sl a 0 s.n (.mi 0), .int .u64 s.mt] 0 .nil)
def wRow (s : GS) : Blk := .ints .u32 s.nb s.ws
def small (G : Nat) (l : List (Nat × TypeId × Nat × List V)) (s : GS) : Mem := ⟨G + 3, (((rowsAt l).set G (gRow s (G + 1))).set (G + 1) (sRow s (G + 2))).set (G + 2) (wRow s)⟩
def gsOf3 (tg : TypeId) (N W R K : Int) (q : Nat) (ts : TypeId) (a n : Nat) (mt : Int) : Option Blk → Option (GS × Nat × Nat)
  | some (.ints .u32 nb ws) => some (⟨N, W, R, K, mt, n, nb, ws, tg, ts⟩, q, a)
  | _ => none
def gsOf2 (m : Mem) (tg : TypeId) (N W R K : Int) (q : Nat) : Option Blk → Option (GS × Nat × Nat)
  | some (.row true ts k cs) => match Nat.beq k 2 with
    | true => match cs.get 0, cs.get 1 with
      | some (.sl a o n (.mi z)), some (.int .u64 mt) => match Nat.beq o 0 && Nat.beq z 0 with
        | true => gsOf3 tg N W R K q ts a n mt (m.t.get a)
        | false => none
      | _, _ => none
    | false => none
  | _ => none
def gsOf1 (m : Mem) : Option Blk → Option (GS × Nat × Nat)
  | some (.row true tg k cs) => match Nat.beq k 5 with
    | true => match cs.get 0, cs.get 1, cs.get 2, cs.get 3, cs.get 4 with
      | some (.ptr q o), some (.int .i64 N), some (.int .i64 W), some (.int .i64 R), some (.int .i64 K) => match Nat.beq o 0 with
        | true => gsOf2 m tg N W R K q (m.t.get q)
        | false => none
      | _, _, _, _, _ => none
    | false => none
  | _ => none
/-- The ground that lies at p, with the blocks of its store and of its words. -/
def gsOf (m : Mem) (p : Nat) : Option (GS × Nat × Nat) := gsOf1 m (m.t.get p)
def putG (m : Mem) (p q a : Nat) (s : GS) : Mem := ⟨m.nx, ((m.t.set p (gRow s q)).set q (sRow s a)).set a (wRow s)⟩

structure At (m : Mem) (p q a : Nat) (s : GS) : Prop where
  pg : ∃ cs, m.t.get p = some (.row true s.tg 5 cs) ∧ cs.get 0 = some (.ptr q 0) ∧ cs.get 1 = some (.int .i64 s.N) ∧ cs.get 2 = some (.int .i64 s.W) ∧ cs.get 3 = some (.int .i64 s.R) ∧ cs.get 4 = some (.int .i64 s.K)
  pq : ∃ cs, m.t.get q = some (.row true s.ts 2 cs) ∧ cs.get 0 = some (.sl a 0 s.n (.mi 0)) ∧ cs.get 1 = some (.int .u64 s.mt)
  pa : m.t.get a = some (.ints .u32 s.nb s.ws)
theorem gsOf_at {m : Mem} {p q a : Nat} {s : GS} (h : gsOf m p = some (s, q, a)) : At m p q a s := by
  unfold gsOf gsOf1 at h
  split at h
  · rename_i tg k cs hp
    split at h
    · rename_i hk
      obtain rfl := Nat.eq_of_beq_eq_true hk
      split at h
      · rename_i q' o N W R K e0 e1 e2 e3 e4
        split at h
        · rename_i ho
          obtain rfl := Nat.eq_of_beq_eq_true ho
          unfold gsOf2 at h
          split at h
          · rename_i ts k' ds hq
            split at h
            · rename_i hk'
              obtain rfl := Nat.eq_of_beq_eq_true hk'
              split at h
              · rename_i a' o' n z mt d0 d1
                split at h
                · rename_i ho'
                  rw [Bool.and_eq_true] at ho'
                  obtain rfl := Nat.eq_of_beq_eq_true ho'.1
                  obtain rfl := Nat.eq_of_beq_eq_true ho'.2
                  unfold gsOf3 at h
                  split at h
                  · rename_i nb ws ha
                    cases h
                    exact ⟨⟨cs, hp, e0, e1, e2, e3, e4⟩, ⟨ds, hq, d0, d1⟩, ha⟩
                  · cases h
                · cases h
              · cases h
            · cases h
          · cases h
        · cases h
      · cases h
    · cases h
  · cases h
theorem At.ne {m : Mem} {p q a : Nat} {s : GS} (h : At m p q a s) : p ≠ q ∧ p ≠ a ∧ q ≠ a := by
  obtain ⟨⟨c1, h1, _⟩, ⟨c2, h2, _⟩, h3⟩ := h
  refine ⟨fun e => ?_, fun e => ?_, fun e => ?_⟩
  · subst e; rw [h1] at h2; injection h2 with h2; injection h2; omega
  · subst e; rw [h1] at h3; injection h3 with h3; cases h3
  · subst e; rw [h2] at h3; injection h3 with h3; cases h3
theorem fill5 {a b c d e : V} : (Tr.fill [a, b, c, d, e] 0 .nil).get 0 = some a ∧ (Tr.fill [a, b, c, d, e] 0 .nil).get 1 = some b ∧ (Tr.fill [a, b, c, d, e] 0 .nil).get 2 = some c ∧ (Tr.fill [a, b, c, d, e] 0 .nil).get 3 = some d ∧ (Tr.fill [a, b, c, d, e] 0 .nil).get 4 = some e := by
  simp [Tr.get_fill]
theorem fill2 {a b : V} : (Tr.fill [a, b] 0 .nil).get 0 = some a ∧ (Tr.fill [a, b] 0 .nil).get 1 = some b := by
  simp [Tr.get_fill]
theorem fill_inv {l : List V} {i : Nat} {v : V} (h : (Tr.fill l 0 .nil).get i = some v) : l[i]? = some v := by
  rw [Tr.get_fill] at h
  split at h
  · simpa using h
  · rw [Tr.get_nil] at h; cases h

/-- Where the blocks of the small memory lie. -/
def rhoS (ρ : Rho) (G p q a : Nat) : Rho := ⟨fun i => if i < G then ρ i else if i = G then ρ p else if i = G + 1 then ρ q else if i = G + 2 then ρ a else none, fun _ => False, fun _ h => h.elim⟩
theorem rhoS_lt {ρ : Rho} {G p q a i : Nat} (h : i < G) : rhoS ρ G p q a i = ρ i := if_pos h
theorem rhoS_p {ρ : Rho} {G p q a : Nat} : rhoS ρ G p q a G = ρ p := by
  show (if G < G then _ else _) = _
  rw [if_neg (by omega), if_pos rfl]
theorem rhoS_q {ρ : Rho} {G p q a : Nat} : rhoS ρ G p q a (G + 1) = ρ q := by
  show (if G + 1 < G then _ else _) = _
  rw [if_neg (by omega), if_neg (by omega), if_pos rfl]
theorem rhoS_a {ρ : Rho} {G p q a : Nat} : rhoS ρ G p q a (G + 2) = ρ a := by
  show (if G + 2 < G then _ else _) = _
  rw [if_neg (by omega), if_neg (by omega), if_neg (by omega), if_pos rfl]
def Fs (F : Fx) (w : World) (rp rq ra : Nat) : Fx := ⟨fun k => k < w.heap.size ∧ k ≠ rp ∧ k ≠ rq ∧ k ≠ ra, F.g⟩
theorem small_get {G : Nat} {l : List (Nat × TypeId × Nat × List V)} {s : GS} {i : Nat} {b : Blk} (h : (small G l s).t.get i = some b) :
    (i = G ∧ b = gRow s (G + 1)) ∨ (i = G + 1 ∧ b = sRow s (G + 2)) ∨ (i = G + 2 ∧ b = wRow s) ∨ (∃ t n vs, (i, t, n, vs) ∈ l ∧ b = .row false t n (Tr.fill vs 0 .nil)) := by
  unfold small at h
  simp only [Tr.get_set] at h
  split at h
  · rename_i e; cases h; exact .inr (.inr (.inl ⟨e, rfl⟩))
  · split at h
    · rename_i e; cases h; exact .inr (.inl ⟨e, rfl⟩)
    · split at h
      · rename_i e; cases h; exact .inl ⟨e, rfl⟩
      · obtain ⟨t, n, vs, h1, h2⟩ := rowsAt_get h
        exact .inr (.inr (.inr ⟨t, n, vs, h1, h2⟩))
theorem int_flat {ρ ρ' : Rho} {k : IntKind} {n : Int} {x : Value} (h : RelV ρ (.int k n) x) : RelV ρ' (.int k n) x := by rw [RelV] at h ⊢; exact h
theorem ptr_at {ρ ρ' : Rho} {i j o : Nat} {x : Value} {r c : Nat} (h : RelV ρ (.ptr i o) x) (h1 : ρ i = some (r, c)) (h2 : ρ' j = some (r, c)) : RelV ρ' (.ptr j o) x := by
  rw [RelV] at h ⊢
  obtain ⟨r', c', k1, k2⟩ := h
  rw [h1] at k1; cases k1
  exact ⟨r, c, h2, k2⟩
theorem sl_at {ρ ρ' : Rho} {i j o n : Nat} {cp : Cap} {x : Value} {r c : Nat} (h : RelV ρ (.sl i o n cp) x) (h1 : ρ i = some (r, c)) (h2 : ρ' j = some (r, c)) : RelV ρ' (.sl j o n cp) x := by
  rw [RelV] at h ⊢
  obtain ⟨r', c', k1, k2⟩ := h
  rw [h1] at k1; cases k1
  exact ⟨r, c, h2, k2⟩
theorem cells_fill {ρ : Rho} {xs : Array Value} {l : List V} (h : ∀ (i : Nat) (v : V), l[i]? = some v → ∃ x, xs[i]? = some x ∧ RelV ρ v x) : Cells ρ (Tr.fill l 0 .nil) xs := fun i v hv => h i v (fill_inv hv)
theorem gRow_rel {F F' : Fx} {ρ ρ' : Rho} {w : World} {r c q q' rq cq : Nat} {s : GS} {cs : Tr V} (hb : BlkRel F ρ w r c (.row true s.tg 5 cs)) (e0 : cs.get 0 = some (.ptr q 0)) (e1 : cs.get 1 = some (.int .i64 s.N)) (e2 : cs.get 2 = some (.int .i64 s.W)) (e3 : cs.get 3 = some (.int .i64 s.R)) (e4 : cs.get 4 = some (.int .i64 s.K))
    (hq : ρ q = some (rq, cq)) (hq' : ρ' q' = some (rq, cq)) (hF : ¬ F'.k r ∧ F'.g ≤ r) : BlkRel F' ρ' w r c (gRow s q') := by
  obtain ⟨_, _, xs, fr, h1, h2, h3, h4⟩ := hb
  refine ⟨fun _ => hF, fun h => (nomatch h), xs, fr, h1, h2, cells_fill fun i v hv => ?_, h4⟩
  match i, hv with
  | 0, hv => cases hv; obtain ⟨x, k1, k2⟩ := h3 _ _ e0; exact ⟨x, k1, ptr_at k2 hq hq'⟩
  | 1, hv => cases hv; obtain ⟨x, k1, k2⟩ := h3 _ _ e1; exact ⟨x, k1, int_flat k2⟩
  | 2, hv => cases hv; obtain ⟨x, k1, k2⟩ := h3 _ _ e2; exact ⟨x, k1, int_flat k2⟩
  | 3, hv => cases hv; obtain ⟨x, k1, k2⟩ := h3 _ _ e3; exact ⟨x, k1, int_flat k2⟩
  | 4, hv => cases hv; obtain ⟨x, k1, k2⟩ := h3 _ _ e4; exact ⟨x, k1, int_flat k2⟩
  | i + 5, hv => simp at hv
theorem sRow_rel {F F' : Fx} {ρ ρ' : Rho} {w : World} {r c a a' ra ca : Nat} {s : GS} {cs : Tr V} (hb : BlkRel F ρ w r c (.row true s.ts 2 cs)) (e0 : cs.get 0 = some (.sl a 0 s.n (.mi 0))) (e1 : cs.get 1 = some (.int .u64 s.mt))
    (ha : ρ a = some (ra, ca)) (ha' : ρ' a' = some (ra, ca)) (hF : ¬ F'.k r ∧ F'.g ≤ r) : BlkRel F' ρ' w r c (sRow s a') := by
  obtain ⟨_, _, xs, fr, h1, h2, h3, h4⟩ := hb
  refine ⟨fun _ => hF, fun h => (nomatch h), xs, fr, h1, h2, cells_fill fun i v hv => ?_, h4⟩
  match i, hv with
  | 0, hv => cases hv; obtain ⟨x, k1, k2⟩ := h3 _ _ e0; exact ⟨x, k1, sl_at k2 ha ha'⟩
  | 1, hv => cases hv; obtain ⟨x, k1, k2⟩ := h3 _ _ e1; exact ⟨x, k1, int_flat k2⟩
  | i + 2, hv => simp at hv
theorem small_rm {F : Fx} {w0 w : World} {ρ : Rho} {m : Mem} {G p q a : Nat} {s : GS} {gl : List (Nat × List V)} (hm : RM F w0 ρ m w) (hg : Glo G ρ) (hAt : At m p q a s)
    (hf : glFine G gl = true) (hb : glB m gl = true) {rp cp rq cq ra ca : Nat} (hp : ρ p = some (rp, cp)) (hq : ρ q = some (rq, cq)) (ha : ρ a = some (ra, ca)) :
    RM (Fs F w rp rq ra) w (rhoS ρ G p q a) (small G (glRows (tyAt m) (szAt m) gl) s) w := by
  obtain ⟨npq, npa, nqa⟩ := hAt.ne
  obtain ⟨⟨c1, g1, g10, g11, g12, g13, g14⟩, ⟨c2, g2, g20, g21⟩, g3⟩ := hAt
  have bp := hm.at g1 hp
  have bq := hm.at g2 hq
  have ba := hm.at g3 ha
  have lp := bp.lt
  have lq := bq.lt
  have la := ba.lt
  have gp : F.g ≤ rp := (bp.1 rfl).2
  have gq : F.g ≤ rq := (bq.1 rfl).2
  have ga : F.g ≤ ra := ba.1.2
  have dpq : rp ≠ rq := fun e => npq (hm.inj p q _ _ rp cp cq g1 g2 hp (by rw [e]; exact hq))
  have dpa : rp ≠ ra := fun e => npa (hm.inj p a _ _ rp cp ca g1 g3 hp (by rw [e]; exact ha))
  have dqa : rq ≠ ra := fun e => nqa (hm.inj q a _ _ rq cq ca g2 g3 hq (by rw [e]; exact ha))
  have nk : ∀ {r}, r = rp ∨ r = rq ∨ r = ra → ¬ (Fs F w rp rq ra).k r := fun {r} h hh => by
    obtain ⟨_, h1, h2, h3⟩ := hh
    rcases h with h | h | h
    · exact h1 h
    · exact h2 h
    · exact h3 h
  have hgl := gl_holds hm hg hf hb
  have glo : ∀ {i : Nat} {t : TypeId} {n : Nat} {vs : List V}, (i, t, n, vs) ∈ glRows (tyAt m) (szAt m) gl → i < G ∧ ∃ c, rhoS ρ G p q a i = some (i, c) ∧ i < F.g := fun {i t n vs} h => by
    obtain ⟨⟨h1, h2⟩, _⟩ := hgl _ _ _ _ h
    obtain ⟨c, hc⟩ := hg i h1
    exact ⟨h1, c, by rw [rhoS_lt h1]; exact hc, h2⟩
  -- where each block lies
  have loc : ∀ {i b}, (small G (glRows (tyAt m) (szAt m) gl) s).t.get i = some b → ∃ r c, rhoS ρ G p q a i = some (r, c) ∧ ((i = G ∧ r = rp) ∨ (i = G + 1 ∧ r = rq) ∨ (i = G + 2 ∧ r = ra) ∨ (i < G ∧ r = i ∧ r < F.g)) := fun {i b} h => by
    rcases small_get h with ⟨rfl, _⟩ | ⟨rfl, _⟩ | ⟨rfl, _⟩ | ⟨t, n, vs, h1, _⟩
    · exact ⟨rp, cp, by rw [rhoS_p]; exact hp, .inl ⟨rfl, rfl⟩⟩
    · exact ⟨rq, cq, by rw [rhoS_q]; exact hq, .inr (.inl ⟨rfl, rfl⟩)⟩
    · exact ⟨ra, ca, by rw [rhoS_a]; exact ha, .inr (.inr (.inl ⟨rfl, rfl⟩))⟩
    · obtain ⟨k1, c, k2, k3⟩ := glo h1
      exact ⟨i, c, k2, .inr (.inr (.inr ⟨k1, rfl, k3⟩))⟩
  refine ⟨fun i b h => ?_, fun i j bi bj r c c' hi hj hri hrj => ?_, fun i hi => ⟨?_, fun h => h⟩, fun k h => h.1, Nat.le_trans hm.gsz hm.size, Nat.le_refl _, fun _ _ => rfl, rfl, rfl, rfl⟩
  · rcases small_get h with ⟨rfl, rfl⟩ | ⟨rfl, rfl⟩ | ⟨rfl, rfl⟩ | ⟨t, n, vs, h1, rfl⟩
    · exact ⟨rp, cp, by rw [rhoS_p]; exact hp, gRow_rel bp g10 g11 g12 g13 g14 hq (by rw [rhoS_q]; exact hq) ⟨nk (.inl rfl), gp⟩⟩
    · exact ⟨rq, cq, by rw [rhoS_q]; exact hq, sRow_rel bq g20 g21 ha (by rw [rhoS_a]; exact ha) ⟨nk (.inr (.inl rfl)), gq⟩⟩
    · refine ⟨ra, ca, by rw [rhoS_a]; exact ha, ?_⟩
      obtain ⟨_, rest⟩ := ba
      exact ⟨⟨nk (.inr (.inr rfl)), ga⟩, rest⟩
    · obtain ⟨_, c, k2, k3⟩ := glo h1
      obtain ⟨_, xs, fr, h3, h4, h5⟩ := hgl _ _ _ _ h1
      refine ⟨i, c, k2, fun h => (nomatch h), fun _ => k3, xs, fr, h3, h4, cells_fill fun j v hv => ?_, fun h => (nomatch h)⟩
      obtain ⟨x, q1, q2⟩ := h5 j v hv
      obtain ⟨_, hfl⟩ := glFine_mem hf (glRows_mem h1)
      exact ⟨x, q1, V.flat_rel v x (flatBs_get hfl hv) q2⟩
  · obtain ⟨r1, e1, f1, f2⟩ := loc hi
    obtain ⟨r2, e2, f3, f4⟩ := loc hj
    rw [hri] at f1; cases f1
    rw [hrj] at f3; cases f3
    omega
  · show (if i < G then _ else if i = G then _ else if i = G + 1 then _ else if i = G + 2 then _ else none) = none
    have hi : G + 3 ≤ i := hi
    rw [if_neg (by omega), if_neg (by omega), if_neg (by omega), if_neg (by omega)]
theorem back_rm {F : Fx} {w0 w w' : World} {ρ ρs : Rho} {m ms : Mem} {G p q a : Nat} {s s' : GS} (hm : RM F w0 ρ m w) (hAt : At m p q a s) {rp cp rq cq ra ca : Nat} (hp : ρ p = some (rp, cp)) (hq : ρ q = some (rq, cq)) (ha : ρ a = some (ra, ca))
    (hs : RM (Fs F w rp rq ra) w ρs ms w') (hx : Ext (rhoS ρ G p q a) ρs) (hs' : At ms G (G + 1) (G + 2) s') : RM F w0 ρ (putG m p q a s') w' := by
  obtain ⟨npq, npa, nqa⟩ := hAt.ne
  obtain ⟨⟨c1, g1, _⟩, ⟨c2, g2, _⟩, g3⟩ := hAt
  obtain ⟨⟨d1, k1, k10, k11, k12, k13, k14⟩, ⟨d2, k2, k20, k21⟩, k3⟩ := hs'
  have sp : ρs G = some (rp, cp) := hx.1 _ _ (by rw [rhoS_p]; exact hp)
  have sq : ρs (G + 1) = some (rq, cq) := hx.1 _ _ (by rw [rhoS_q]; exact hq)
  have sa : ρs (G + 2) = some (ra, ca) := hx.1 _ _ (by rw [rhoS_a]; exact ha)
  have bp := hm.at g1 hp
  have bq := hm.at g2 hq
  have ba := hm.at g3 ha
  have cases' : ∀ {i b}, (putG m p q a s').t.get i = some b → (i = a ∧ b = wRow s') ∨ (i = q ∧ b = sRow s' a) ∨ (i = p ∧ b = gRow s' q) ∨ (i ≠ a ∧ i ≠ q ∧ i ≠ p ∧ m.t.get i = some b) := fun {i b} h => by
    unfold putG at h
    simp only [Tr.get_set] at h
    split at h
    · rename_i e; cases h; exact .inl ⟨e, rfl⟩
    · rename_i e1
      split at h
      · rename_i e; cases h; exact .inr (.inl ⟨e, rfl⟩)
      · rename_i e2
        split at h
        · rename_i e; cases h; exact .inr (.inr (.inl ⟨e, rfl⟩))
        · rename_i e3; exact .inr (.inr (.inr ⟨e1, e2, e3, h⟩))
  have old : ∀ {i b}, (putG m p q a s').t.get i = some b → ∃ b', m.t.get i = some b' := fun {i b} h => by
    rcases cases' h with ⟨rfl, _⟩ | ⟨rfl, _⟩ | ⟨rfl, _⟩ | ⟨_, _, _, h⟩
    · exact ⟨_, g3⟩
    · exact ⟨_, g2⟩
    · exact ⟨_, g1⟩
    · exact ⟨_, h⟩
  refine ⟨fun i b h => ?_, fun i j bi bj r c c' hi hj hri hrj => ?_, hm.fresh, hm.fn, hm.gsz, Nat.le_trans hm.size hs.size, fun k hk => ?_, hs.os.trans hm.os, hs.tape.trans hm.tape, hs.output.trans hm.output⟩
  · rcases cases' h with ⟨rfl, rfl⟩ | ⟨rfl, rfl⟩ | ⟨rfl, rfl⟩ | ⟨n1, n2, n3, h⟩
    · refine ⟨ra, ca, ha, ?_⟩
      obtain ⟨_, rest⟩ := hs.at k3 sa
      exact ⟨ba.1, rest⟩
    · exact ⟨rq, cq, hq, sRow_rel (hs.at k2 sq) k20 k21 sa ha (bq.1 rfl)⟩
    · exact ⟨rp, cp, hp, gRow_rel (hs.at k1 sp) k10 k11 k12 k13 k14 sq hq (bp.1 rfl)⟩
    · obtain ⟨r, c, h1, h2⟩ := hm.blk i b h
      refine ⟨r, c, h1, h2.move (Ext.refl ρ) (hs.keep r ⟨h2.lt, fun e => ?_, fun e => ?_, fun e => ?_⟩)⟩
      · subst e; exact n3 (hm.inj i p _ _ _ c cp h g1 h1 hp)
      · subst e; exact n2 (hm.inj i q _ _ _ c cq h g2 h1 hq)
      · subst e; exact n1 (hm.inj i a _ _ _ c ca h g3 h1 ha)
  · obtain ⟨b1, h1⟩ := old hi
    obtain ⟨b2, h2⟩ := old hj
    exact hm.inj i j b1 b2 r c c' h1 h2 hri hrj
  · rw [hs.keep k ⟨Nat.lt_of_lt_of_le (hm.fn k hk) hm.size, fun e => ?_, fun e => ?_, fun e => ?_⟩]
    · exact hm.keep k hk
    · subst e; exact (bp.1 rfl).1 hk
    · subst e; exact (bq.1 rfl).1 hk
    · subst e; exact ba.1.1 hk
/-- A function of a ground and of plain values. -/
def gE (gl : List (Nat × List V)) (A R : Ty) (d : GS → A.T → R.T × GS) : List V → Mem → Option (V × Mem) := fun as m => match as with
  | .ptr p 0 :: as => match gsOf m p with
    | some (s, q, a) => match outTs A as with
      | some x => match glB m gl with
        | true => some (inT R (d s x).1, putG m p q a (d s x).2)
        | false => none
      | none => none
    | none => none
  | _ => none
/-- What comes of a run over a small memory. -/
def finG (G : Nat) (R : Ty) (v : V) (m : Mem) : Option (R.T × GS) := match outT R v with
  | some r => match gsOf m G with
    | some (s, q, a) => match Nat.beq q (G + 1) && Nat.beq a (G + 2) with
      | true => some (r, s)
      | false => none
    | none => none
  | none => none
theorem finG_some {G : Nat} {R : Ty} {v : V} {m : Mem} {r : R.T} {s : GS} (h : finG G R v m = some (r, s)) : v = inT R r ∧ At m G (G + 1) (G + 2) s := by
  unfold finG at h
  split at h
  · rename_i r' hr
    split at h
    · rename_i s' q a hs
      split at h
      · rename_i hb
        cases h
        rw [Bool.and_eq_true] at hb
        obtain rfl := Nat.eq_of_beq_eq_true hb.1
        obtain rfl := Nat.eq_of_beq_eq_true hb.2
        exact ⟨outT_in R v r hr, gsOf_at hs⟩
      · cases h
    · cases h
  · cases h
/-- The same, where there may be no answer. -/
def gEo (gl : List (Nat × List V)) (A R : Ty) (d : GS → A.T → Option (R.T × GS)) : List V → Mem → Option (V × Mem) := fun as m => match as with
  | .ptr p 0 :: as => match gsOf m p with
    | some (s, q, a) => match outTs A as with
      | some x => match glB m gl with
        | true => match d s x with
          | some y => some (inT R y.1, putG m p q a y.2)
          | none => none
        | false => none
      | none => none
    | none => none
  | _ => none
def gEk {β : Type} (gl : List (Nat × List V)) (A R : Ty) (d : GS → A.T → Option (R.T × GS)) : List V → Mem → (V → Mem → Option β) → Option β := fun as m κ => match as with
  | .ptr p 0 :: as => match gsOf m p with
    | some (s, q, a) => match outTs A as with
      | some x => match glB m gl with
        | true => match d s x with
          | some y => κ (inT R y.1) (putG m p q a y.2)
          | none => none
        | false => none
      | none => none
    | none => none
  | _ => none
theorem gEk_eq {β : Type} {gl : List (Nat × List V)} {A R : Ty} {d : GS → A.T → Option (R.T × GS)} {as m} {κ : V → Mem → Option β} : gEk gl A R d as m κ = pairK (gEo gl A R d as m) κ := by
  unfold gEk gEo
  split
  · rename_i p as
    cases gsOf m p with
    | none => rfl
    | some x =>
      obtain ⟨s, q, a⟩ := x
      show (match outTs A as with | some x => _ | none => none) = pairK (match outTs A as with | some x => _ | none => none) κ
      cases outTs A as with
      | none => rfl
      | some x =>
        show (match glB m gl with | true => _ | false => none) = pairK (match glB m gl with | true => _ | false => none) κ
        cases glB m gl with
        | false => rfl
        | true =>
          show (match d s x with | some y => _ | none => none) = pairK (match d s x with | some y => _ | none => none) κ
          cases d s x <;> rfl
  · rfl
theorem gEk_some {β : Type} {gl : List (Nat × List V)} {A R : Ty} {d : GS → A.T → Option (R.T × GS)} {as m} {κ : V → Mem → Option β} {b : β} (h : gEk gl A R d as m κ = some b) : ∃ v m', gEo gl A R d as m = some (v, m') ∧ κ v m' = some b := by
  rw [gEk_eq] at h
  exact pairK_some h
def KTab.add (K : KTab) (f : FuncId) (gl : List (Nat × List V)) (A R : Ty) (d : GS → A.T → Option (R.T × GS)) : KTab := ⟨fun g => bif Nat.beq g f then some (gEk gl A R d) else K.get g⟩
theorem KOk.add {K : KTab} {T : Tab} (hK : KOk K T) (f : FuncId) (gl : List (Nat × List V)) (A R : Ty) (d : GS → A.T → Option (R.T × GS)) : KOk (K.add f gl A R d) (T.add f (gEo gl A R d)) := fun β g e' h => by
  have h : (bif Nat.beq g f then some (gEk gl A R d) else K.get g) = some e' := h
  show ∃ e, (bif Nat.beq g f then some (gEo gl A R d) else T.sum g) = some e ∧ _
  cases hb : Nat.beq g f with
  | true =>
    rw [hb] at h; cases h
    exact ⟨_, rfl, fun as m κ b hh => gEk_some hh⟩
  | false =>
    rw [hb] at h
    exact hK β g e' h
/-- A contract without that changes nothing of it. -/
theorem KOk.past {K : KTab} {T : Tab} (hK : KOk K T) {f : FuncId} {e : List V → Mem → Option (V × Mem)} (hf : ∀ β, (K.get (β := β) f).isNone = true) : KOk K (T.add f e) := fun β g e' h => by
  show ∃ e1, (bif Nat.beq g f then some e else T.sum g) = some e1 ∧ _
  cases hb : Nat.beq g f with
  | true =>
    have := Nat.eq_of_beq_eq_true hb
    subst this
    have := hf β
    rw [h] at this; cases this
  | false => exact hK β g e' h
/-- From what a call does over a small memory. -/
theorem g_sem {P : Program} {G : Nat} {f : FuncId} {gl : List (Nat × List V)} {A R : Ty} {d : GS → A.T → Option (R.T × GS)} (hfn : ∃ fn c, P.funcs[f]? = some fn ∧ fn.body = some c) (hgl : glFine G gl = true)
    (h : ∀ tt nn s x y, d s x = some y → ∀ F w0 ρ w xs, RM F w0 ρ (small G (glRows tt nn gl) s) w → Glo G ρ → RelL ρ (.ptr G 0 :: inTs A x) xs →
      Calls P f (List.toArray xs) w fun e w' => ∃ ρ' x v m', e = .returned x ∧ Ext ρ ρ' ∧ RelV ρ' v x ∧ RM F w0 ρ' m' w' ∧ finG G R v m' = some y) : SumOk P G f (gEo gl A R d) := fun as m v m' he => by
  refine ⟨hfn, fun F w0 ρ w xs hm hg ha => ?_⟩
  unfold gEo at he
  split at he
  · rename_i p as
    split at he
    · rename_i s q a hgs
      split at he
      · rename_i x hx
        split at he
        · rename_i hb
          split at he
          · rename_i y hy
            cases he
            have hx := outTs_in A as x hx
            subst hx
            have hAt := gsOf_at hgs
            obtain ⟨⟨c1, g1, _⟩, ⟨c2, g2, _⟩, g3⟩ := id hAt
            obtain ⟨rp, cp, hp, _⟩ := hm.blk _ _ g1
            obtain ⟨rq, cq, hq, _⟩ := hm.blk _ _ g2
            obtain ⟨ra, ca, ha', _⟩ := hm.blk _ _ g3
            have hrm := small_rm hm hg hAt hgl hb hp hq ha'
            rw [RelL] at ha
            obtain ⟨x0, ys, rfl, h1, h2⟩ := ha
            have hargs : RelL (rhoS ρ G p q a) (.ptr G 0 :: inTs A x) (x0 :: ys) := .cons (ptr_at h1 hp (by rw [rhoS_p]; exact hp)) (inTs_flat A x ys h2)
            have hglo : Glo G (rhoS ρ G p q a) := fun g hgg => by
              obtain ⟨c, hc⟩ := hg g hgg
              exact ⟨c, by rw [rhoS_lt hgg]; exact hc⟩
            refine (h (tyAt m) (szAt m) s x y hy _ _ _ _ _ hrm hglo hargs).mono fun e w' ⟨ρ', z, v, m', k1, k2, k3, k4, k5⟩ => ?_
            obtain ⟨r, s'⟩ := y
            obtain ⟨rfl, hs'⟩ := finG_some k5
            exact ⟨ρ, z, k1, Ext.refl ρ, inT_flat R _ z k3, back_rm hm hAt hp hq ha' k4 k2 hs'⟩
          · cases he
        · cases he
      · cases he
    · cases he
  · cases he
theorem g_oko {K : KTab} {q : FuncId → Tmp → Bool} {P : Program} {T : Tab} (hT : TabOk P T) (hK : KOk K T) (hmix : P.follows .mixedOrders = true) {f : FuncId} {gl : List (Nat × List V)} {A R : Ty} {d : GS → A.T → Option (R.T × GS)} {N D n : Nat} (hfn : ∃ fn c, P.funcs[f]? = some fn ∧ fn.body = some c) (hgl : glFine T.g gl = true)
    (h : ∀ tt nn s x, callS (envK K q P T N D) n f (.ptr T.g 0 :: inTs A x) (small T.g (glRows tt nn gl) s) (finG T.g R) = d s x) : SumOk P T.g f (gEo gl A R d) :=
  g_sem hfn hgl fun tt nn s x y hy F w0 ρ w xs hm hg ha => callS_ok hT hK hmix ((h tt nn s x).trans hy) hm hg ha
theorem gE_gEo {gl : List (Nat × List V)} {A R : Ty} {d : GS → A.T → R.T × GS} {as m} : gE gl A R d as m = gEo gl A R (fun s x => some (d s x)) as m := by
  unfold gE gEo
  rfl
theorem g_ok {K : KTab} {q : FuncId → Tmp → Bool} {P : Program} {T : Tab} (hT : TabOk P T) (hK : KOk K T) (hmix : P.follows .mixedOrders = true) {f : FuncId} {gl : List (Nat × List V)} {A R : Ty} {d : GS → A.T → R.T × GS} {N D n : Nat} (hfn : ∃ fn c, P.funcs[f]? = some fn ∧ fn.body = some c) (hgl : glFine T.g gl = true)
    (h : ∀ tt nn s x, callS (envK K q P T N D) n f (.ptr T.g 0 :: inTs A x) (small T.g (glRows tt nn gl) s) (finG T.g R) = some (d s x)) : SumOk P T.g f (gE gl A R d) := fun as m v m' he =>
  g_oko (d := fun s x => some (d s x)) hT hK hmix hfn hgl h as m v m' (gE_gEo.symm.trans he)
end Go.CE
