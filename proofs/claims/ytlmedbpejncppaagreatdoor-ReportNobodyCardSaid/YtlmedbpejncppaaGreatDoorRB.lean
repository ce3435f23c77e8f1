/-
  The chapter's example of law 33, in the form that the printed walks take.
-/
import Derived.Test.YtlmedbpejncppaaGreatDoorR3
import Derived.Test.YtlmedbpejncppaaGreatDoorCeFour
import Derived.Test.YtlmedbpejncppaaGreatDoorK
namespace Go.Proofs.YtlmedbpejncppaaGreatDoor.PP
open Go Go.RowKit
set_option maxRecDepth 100000
/-- What the package variables hold. -/
structure Gl (w : World) : Prop where
  size : 2 ≤ w.heap.size
  hs : ∀ g vs, (g, vs) ∈ [(1, CE.zeroVs)] → ∃ t n, CE.Holds w g t n vs
theorem gl_below {w w' : World} (h : Gl w) (hb : Below w.heap.size w w') : Gl w' := ⟨Nat.le_trans h.size hb.size, fun g vs hm => by
  obtain ⟨t, n, xs, fr, h1, h2, h3⟩ := h.hs g vs hm
  exact ⟨t, n, xs, fr, (hb.block g (Array.getElem?_eq_some_iff.1 h1).1).trans h1, h2, h3⟩⟩
def quitrentlaw33_begun.f : Option Bool := some true
theorem quitrentlaw33_begun.calls (r : Bool) (w : World) (h : quitrentlaw33_begun.f = some r) (hG : Gl w) :
    Calls Tryz.prog 15 #[] w fun e w' => e = .returned (.bool r) ∧ Below w.heap.size w w' := by
  obtain rfl : true = r := Option.some.inj h
  have hc := CE.pure_calls (CE.pureC_ok CE.R1U_ok CE.mixP (N := 20000) (D := 6) (n := 60000) ⟨Tryz.f15, _, Tryz.func15, rfl⟩ rfl fun tt nn a => CE.r_begun15 tt nn : CE.SumOk Tryz.prog 2 15 (CE.pureE [(1, CE.zeroVs)] .nil .b (fun _ => true))) hG.size (by kernel_rfl) hG.hs (x := PUnit.unit) (xs := []) (fun ρ => .nil) rfl (fun _ _ => by kernel_rfl)
  refine hc.mono fun e W' ⟨y, he, hy, hb⟩ => ?_
  have hy : CE.RelV (CE.rho0 0) (.bool true) y := hy _
  rw [CE.RelV] at hy
  subst hy
  exact ⟨he, hb⟩
end Go.Proofs.YtlmedbpejncppaaGreatDoor.PP
