/-
  CLOSED EVALUATION, 25: seat D: AuditWords, at any kind.
-/
import Derived.Test.YtnodogpaadobnaaDoorCeX
noncomputable section
namespace Go.CE
open Go Go.RowKit Go.Proofs
set_option linter.unusedSimpArgs false
set_option linter.unusedVariables false
set_option maxRecDepth 100000

theorem words_neg (t : TypeId) (n j : Nat) : vOf (callE (envD Tryd.prog tabB 3000 3) 3000 3 [.int .i64 (Int.negSucc j)] (memG 2 [(1, t, n, noneVs)])) = some (.bool true) := by kernel_rfl
theorem words_big (t : TypeId) (n j : Nat) : vOf (callE (envD Tryd.prog tabB 3000 3) 3000 3 [.int .i64 (Int.ofNat (j + 12))] (memG 2 [(1, t, n, noneVs)])) = some (.bool true) := by kernel_rfl
theorem words_mid (t : TypeId) (n : Nat) : ∀ k, k < 12 → vOf (callE (envD Tryd.prog tabB 3000 3) 3000 3 [.int .i64 (Int.ofNat k)] (memG 2 [(1, t, n, noneVs)])) = some (.bool true) := fun k hk =>
  match k, hk with
  | 0, _ => by kernel_rfl
  | 1, _ => by kernel_rfl
  | 2, _ => by kernel_rfl
  | 3, _ => by kernel_rfl
  | 4, _ => by kernel_rfl
  | 5, _ => by kernel_rfl
  | 6, _ => by kernel_rfl
  | 7, _ => by kernel_rfl
  | 8, _ => by kernel_rfl
  | 9, _ => by kernel_rfl
  | 10, _ => by kernel_rfl
  | 11, _ => by kernel_rfl
  | k + 12, h => by omega
theorem words_all (t : TypeId) (n : Nat) (k : Int) : vOf (callE (envD Tryd.prog tabB 3000 3) 3000 3 [.int .i64 k] (memG 2 [(1, t, n, noneVs)])) = some (.bool true) := by
  cases k with
  | negSucc j => exact words_neg t n j
  | ofNat k =>
    by_cases h : k < 12
    · exact words_mid t n k h
    · obtain ⟨j, rfl⟩ : ∃ j, k = j + 12 := ⟨k - 12, by omega⟩
      exact words_big t n j
theorem auditWords_calls {w : World} (k : Int) (hG : 2 ≤ w.heap.size) (hn : ∃ t n, Holds w 1 t n noneVs) : Calls Tryd.prog 3 #[.int .i64 k] w fun e w' => e = .returned (.bool true) ∧ Below w.heap.size w w' := by
  obtain ⟨t, n, hn⟩ := hn
  refine (closed_call (xs := [.int .i64 k]) tabB_ok mixD (words_all t n k) hG (fun g t' n' vs h => ?_) (by rw [RelL]; exact ⟨_, [], rfl, by rw [RelV], by rw [RelL]⟩)).mono fun e w' ⟨ρ', x, h1, h2, h3⟩ => ?_
  · simp only [List.mem_singleton, Prod.mk.injEq] at h
    obtain ⟨rfl, rfl, rfl, rfl⟩ := h
    exact ⟨by show 1 < 2; omega, hn⟩
  · rw [RelV] at h2
    subst h2
    exact ⟨h1, h3⟩
end Go.CE
