/-
  CLOSED EVALUATION, 23: seat D: the chapter's example of law 25.
-/
import Derived.Test.YtnodogpaadobnaaDoorCeV
import Derived.Test.YtnodogpaadobnaaDoorProg
import Derived.KernelRfl
noncomputable section
namespace Go.CE
open Go Go.RowKit Go.Proofs
set_option linter.unusedSimpArgs false
set_option linter.unusedVariables false
set_option maxRecDepth 100000

def tabA : Tab := ⟨2, fun f => bif Nat.beq f 158 then some addX else none, fun _ => none⟩
theorem mixD : Tryd.prog.follows .mixedOrders = true := by kernel_rfl
theorem ngD : Tryd.prog.funcs.toList.all (fun fn => !(fn.name == "runtime.NumGoroutine")) = true := by kernel_rfl
theorem extD {g : FuncId} {e : List V → Mem → Option (V × Mem)} (h : tabA.ext g = some e) : g = 158 ∧ e = addX := by
  have h : (bif Nat.beq g 158 then some addX else none) = some e := h
  cases hb : Nat.beq g 158 with
  | true => rw [hb] at h; cases h; exact ⟨Nat.eq_of_beq_eq_true hb, rfl⟩
  | false => rw [hb] at h; cases h
theorem addD {us : List V} {m m' : Mem} {v : V} (he : addX us m = some (v, m')) {F : Fx} {w0 w : World} {ρ : Rho} {xs : List Value} (hm : RM F w0 ρ m w) (ha : RelL ρ us xs) :
    ∃ ρ' x w', Ext ρ ρ' ∧ (callFunc 158 (List.toArray xs)).run Tryd.prog w = .ok (.value x) w' ∧ RelV ρ' v x ∧ RM F w0 ρ' m' w' :=
  addX_ok Tryd.func158 (by kernel_rfl) (by kernel_rfl) (by kernel_rfl) (by kernel_rfl) he hm ha
theorem tabA_ok : TabOk Tryd.prog tabA where
  ng := ng_of ngD
  ext := fun g e us m v m' h he F w0 ρ w xs hm ha => by
    obtain ⟨rfl, rfl⟩ := extD h
    exact addD he hm ha
  sum := fun g e us m v m' h => by cases h
/-- What law 25 asks of the package variables. -/
def noneVs : List V := [.int .i64 0, .int .i64 0, .int .i64 0, .int .i64 0, .int .i64 0]
theorem begun25 (t : TypeId) (n : Nat) : vOf (callE (envD Tryd.prog tabA 20000 6) 60000 12 [] (memG 2 [(1, t, n, noneVs)])) = some (.bool true) := by kernel_rfl
theorem begun25_calls {w : World} (hG : 2 ≤ w.heap.size) (hn : ∃ t n, Holds w 1 t n noneVs) : Calls Tryd.prog 12 #[] w fun e w' => e = .returned (.bool true) ∧ Below w.heap.size w w' := by
  obtain ⟨t, n, hn⟩ := hn
  refine (closed_call (xs := []) tabA_ok mixD (begun25 t n) hG (fun g t' n' vs h => ?_) (by rw [RelL])).mono fun e w' ⟨ρ', x, h1, h2, h3⟩ => ?_
  · simp only [List.mem_singleton, Prod.mk.injEq] at h
    obtain ⟨rfl, rfl, rfl, rfl⟩ := h
    exact ⟨by show 1 < 2; omega, hn⟩
  · rw [RelV] at h2
    subst h2
    exact ⟨h1, h3⟩
end Go.CE
