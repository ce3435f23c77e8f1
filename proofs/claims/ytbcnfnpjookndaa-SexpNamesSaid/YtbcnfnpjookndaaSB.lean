/-
  The chapter's example of law 35, and strings.IndexByte, in the form that the printed walks take.
-/
import Derived.Test.YtbcnfnpjookndaaS0
import Derived.Test.YtbcnfnpjookndaaCeFour
import Derived.Test.YtbcnfnpjookndaaK
namespace Go.Proofs.Ytbcnfnpjookndaa.PP
open Go Go.RowKit
set_option maxRecDepth 100000
theorem r_begun (tt : Nat → TypeId) (nn : Nat → Nat) : CE.vOf (CE.callE (CE.envD Try.prog CE.S0 20000 6) 60000 10 [] (CE.memG 0 (CE.glRows tt nn []))) = some (.bool true) := by kernel_rfl
def quitrentlaw35_begun.f : Option Bool := some true
theorem quitrentlaw35_begun.calls (r : Bool) (w : World) (h : quitrentlaw35_begun.f = some r) :
    Calls Try.prog 10 #[] w fun e w' => e = .returned (.bool r) ∧ Below w.heap.size w w' := by
  obtain rfl : true = r := Option.some.inj h
  have hc := CE.pure_calls (W := w) (CE.pureC_ok CE.S0_ok CE.mixP (N := 20000) (D := 6) (n := 60000) ⟨Try.f10, _, Try.func10, rfl⟩ rfl fun tt nn a => r_begun tt nn : CE.SumOk Try.prog 0 10 (CE.pureE [] .nil .b (fun _ => true))) (Nat.zero_le _) (by kernel_rfl) (fun g vs hm => by cases hm) (x := PUnit.unit) (xs := []) (fun ρ => .nil) rfl (fun _ _ => by kernel_rfl)
  refine hc.mono fun e W' ⟨y, he, hy, hb⟩ => ?_
  have hy : CE.RelV (CE.rho0 0) (.bool true) y := hy _
  rw [CE.RelV] at hy
  subst hy
  exact ⟨he, hb⟩
theorem r_index (s : List UInt8) (c : Nat) (tt : Nat → TypeId) (nn : Nat → Nat) : CE.vOf (CE.callE (CE.envD Try.prog CE.S0 20000 6) 3000 15 [.str s, .int .u8 (.ofNat c)] (CE.memG 0 (CE.glRows tt nn []))) = some (.int .i64 (CE.idxB (UInt8.ofNat c) s 0)) := by kernel_rfl
/-- Where a letter stands first. -/
def strings_IndexByte.f (a0 : ByteArray) (a1 : Int) : Option Int := match a1 with
  | .ofNat c => some (CE.idxB (UInt8.ofNat c) a0.data.toList 0)
  | .negSucc _ => none
theorem strings_IndexByte.calls (a0 : ByteArray) (a1 : Int) (r : Int) (w : World) (h : strings_IndexByte.f a0 a1 = some r) :
    Calls Try.prog 15 #[.string a0, .int .u8 a1] w fun e w' => e = .returned (.int .i64 r) ∧ Below w.heap.size w w' := by
  cases a1 with
  | negSucc n => cases h
  | ofNat c =>
    obtain rfl : CE.idxB (UInt8.ofNat c) a0.data.toList 0 = r := Option.some.inj h
    have hm := CE.memG_rm2 (G := 0) (g0 := 0) (l := CE.glRows (fun _ => 0) (fun _ => 0) []) (w := w) (Nat.zero_le _) (fun g t n vs hm => by cases hm)
    obtain ⟨m1, hrun⟩ := CE.vOf_some (r_index a0.data.toList c (fun _ => 0) (fun _ => 0))
    have hc := CE.callD_ok CE.S0_ok CE.mixP hrun hm (fun g hg => absurd hg (Nat.not_lt_zero g)) (xs := [.string a0, .int .u8 (.ofNat c)]) (.cons (by rw [CE.RelV]) (.cons CE.RelV.int .nil))
    refine hc.mono fun e W' ⟨ρ', y, he, _, hy, hb⟩ => ?_
    rw [CE.RelV] at hy
    subst hy
    exact ⟨he, hb.below2⟩
end Go.Proofs.Ytbcnfnpjookndaa.PP
