/-
  Ytbcnfnpjookndaa: the tables of what the model carries out by itself.
-/
import Derived.Test.YtbcnfnpjookndaaCeFour
import Derived.Test.YtbcnfnpjookndaaCeThree
import Derived.Test.YtbcnfnpjookndaaProg
import Derived.KernelRfl
noncomputable section
namespace Go.CE
open Go Go.Proofs Go.RowKit
set_option maxRecDepth 100000
set_option linter.unusedVariables false
set_option linter.unusedSimpArgs false
def zeroVs : List V := [.int .i64 0, .int .i64 0, .int .i64 0, .int .i64 0, .int .i64 0]
def loadX : List V → Mem → Option (V × Mem)
  | [.ptr b o], m => match m.cell? b o with
    | some (.int .u64 x) => some (.int .u64 x, m)
    | _ => none
  | _, _ => none
theorem loadX_ok {P : Program} {f : FuncId} {fn : Func} (hf : P.funcs[f]? = some fn) (hname : (fn.name == "runtime.NumGoroutine") = false) (hb : fn.body.isNone = true) (hn : Extern.findNext fn = none)
    (hx : Extern.find fn = some (Extern.Atomic.loadT (.int .u64))) {us : List V} {m m' : Mem} {v : V} (he : loadX us m = some (v, m')) {F : Fx} {w0 w : World} {ρ : Rho} {xs : List Value} (hm : RM F w0 ρ m w) (ha : RelL ρ us xs) :
    ∃ ρ' x w', Ext ρ ρ' ∧ (callFunc f (List.toArray xs)).run P w = .ok (.value x) w' ∧ RelV ρ' v x ∧ RM F w0 ρ' m' w' := by
  unfold loadX at he
  split at he
  · rename_i b o
    split at he
    · rename_i x hc
      cases he
      rw [RelL] at ha
      obtain ⟨x1, ys1, rfl, r1, ha⟩ := ha
      rw [RelL] at ha
      subst ha
      simp only [RelV] at r1
      obtain ⟨r, c, hr, rfl⟩ := r1
      obtain ⟨x3, h3, h4⟩ := hm.cell hr hc
      have h5 := h4
      rw [RelV] at h4
      subst h4
      exact ⟨ρ, _, _, Ext.refl ρ, run_call_load hf hname hb hn .u64 hx h3, h5, hm⟩
    · cases he
  · cases he
def S0 : Tab := ⟨0, fun g => (bif Nat.beq g 35 then some idxX else none), fun _ => none⟩
theorem S0_ok : TabOk Try.prog S0 where
  ng := ng_of (by kernel_rfl)
  ext := fun g e us m v m' h he F w0 ρ w xs hm ha => by
    have h : (bif Nat.beq g 35 then some idxX else none) = some e := h
    cases hb35 : Nat.beq g 35 with
    | true =>
      rw [hb35] at h; cases h
      obtain rfl := Nat.eq_of_beq_eq_true hb35
      exact idxX_ok Try.func35 (by kernel_rfl) (by kernel_rfl) (by kernel_rfl) (by kernel_rfl) he hm ha
    | false =>
    rw [hb35] at h
    cases h
  sum := fun g e us m v m' h => by cases h
abbrev S0K : KTab := KTab.none
theorem S0K_ok : KOk S0K S0 := KOk.none
theorem mixP : Try.prog.follows .mixedOrders = true := by kernel_rfl
def shut {α : Type} (a : α) : {b : α // b = a} := Classical.choice ⟨⟨a, rfl⟩⟩
def quietZ (f t : Nat) : Bool := false
theorem intLe_dec (a b : Int) : intLe a b = decide (a ≤ b) := intLe_eq a b
theorem some_cond {α : Type} (c : Bool) (a b : α) : some (bif c then a else b) = bif c then some a else some b := by cases c <;> rfl
theorem drop_in {α : Type} (i : Int) (n : Nat) (A B C : Option α) : (bif intLe 0 i then (bif !intLe (Int.ofNat n) i then (bif intIn i n then A else none) else B) else C) = bif intLe 0 i then (bif !intLe (Int.ofNat n) i then A else B) else C := by
  unfold intIn; cases intLe 0 i <;> cases intLe (Int.ofNat n) i <;> rfl
theorem u64_pos (x : Int) : intLe 0 (IntKind.u64.wrap x) = true := by
  rw [intLe_dec, decide_eq_true_iff]
  have : IntKind.u64.wrap x = x % 18446744073709551616 := rfl
  rw [this]
  exact Int.emod_nonneg _ (by decide)
end Go.CE
