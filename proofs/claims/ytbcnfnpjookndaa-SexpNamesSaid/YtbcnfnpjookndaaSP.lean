/-
  Law 35, names: what the printed functions answer is what the document says.
-/
import Derived.Test.YtbcnfnpjookndaaF3
import Derived.OpenShut
import Derived.KernelRfl
namespace Go.Proofs.Ytbcnfnpjookndaa.PP
open Go Go.RowKit Go.ChangeAt Go.ChangeShapes Go.WideShapes Go.Proofs.YtbcnfnpjookndaaW.PrintWords Go.Proofs.YtbcnfnpjookndaaW.PrintLast Go.Proofs.YtbcnfnpjookndaaW.PrintMore
set_option linter.unusedVariables false
set_option linter.unusedSimpArgs false
set_option maxRecDepth 100000

abbrev SG : ByteArray := ⟨#[97, 98, 99, 100, 101, 102, 103, 104, 105, 106, 107, 108, 109, 110, 111, 112, 113, 114, 115, 116, 117, 118, 119, 120, 121, 122, 43, 45, 42, 60, 61]⟩

theorem w64 (n : Int) (h : -9223372036854775808 ≤ n ∧ n ≤ 9223372036854775807) : wrap64 n = n := by unfold wrap64; omega
theorem up_k {α : Type} {F : Nat → Option α} (h : ∀ k, LeO (F k) (F (k + 1))) {n : Nat} {r : α} (e : F n = some r) : ∀ d, F (n + d) = some r
  | 0 => e
  | d + 1 => h (n + d) r (up_k h e d)
theorem up_le {α : Type} {F : Nat → Option α} (h : ∀ k, LeO (F k) (F (k + 1))) {n k : Nat} {r : α} (e : F n = some r) (hk : n ≤ k) : F k = some r := by
  obtain ⟨d, rfl⟩ := Nat.le.dest hk
  exact up_k h e d

/-- The number of a sign, 0: none. -/
def sg (c : Int) : Int := (quitrentref35_sign.f 40 c).getD 0
def sgOk (n : Nat) : Bool := match quitrentref35_sign.f 40 (n : Int), strings_IndexByte.f SG (n : Int) with
  | some r, some j => decide (j = r - 1) && decide (0 ≤ r) && decide (r ≤ 31)
  | _, _ => false
theorem sgAll : (List.range 256).all sgOk = true := by decide +kernel
theorem sg_spec (c : Int) (h : 0 ≤ c ∧ c ≤ 255) : quitrentref35_sign.f 40 c = some (sg c) ∧ strings_IndexByte.f SG c = some (sg c - 1) ∧ 0 ≤ sg c ∧ sg c ≤ 31 := by
  have hc : c = ((c.toNat : Nat) : Int) := by omega
  have ha := List.all_eq_true.mp sgAll c.toNat (List.mem_range.mpr (by omega))
  unfold sgOk at ha
  rw [← hc] at ha
  unfold sg
  cases hs : quitrentref35_sign.f 40 c with
  | none => rw [hs] at ha; simp at ha
  | some r =>
    cases hi : strings_IndexByte.f SG c with
    | none => rw [hs, hi] at ha; simp at ha
    | some j =>
      rw [hs, hi] at ha
      simp only [Bool.and_eq_true, decide_eq_true_eq] at ha
      refine ⟨rfl, ?_, ?_, ?_⟩
      · rw [ha.1.1]; rfl
      · exact ha.1.2
      · exact ha.2
theorem sign_k (c : Int) (h : 0 ≤ c ∧ c ≤ 255) {k : Nat} (hk : 40 ≤ k) : quitrentref35_sign.f k c = some (sg c) :=
  up_le (F := fun k => quitrentref35_sign.f k c) (quitrentref35_sign.mono c) (sg_spec c h).1 hk

theorem names_l (s : ByteArray) (h6 : s.size ≤ 6) : ∀ (d i k : Nat) (p : Int), i + d = s.size → 0 ≤ p → p < 32 ^ (6 - d) → d + 41 ≤ k →
    (∃ v : Int, 0 ≤ v ∧ v < 4294967296 ∧ sexp_Name.l0 k s p (s.size : Int) i = some (v, true) ∧ quitrentref35_IsName.l0 k s i = some true ∧ quitrentref35_Name.l0 k s p i = some v)
    ∨ (sexp_Name.l0 k s p (s.size : Int) i = some (0, false) ∧ quitrentref35_IsName.l0 k s i = some false)
  | 0, i, k, p, hi, h0, hp, hk => by
    obtain ⟨j, rfl⟩ : ∃ j, k = j + 1 := ⟨k - 1, by omega⟩
    have e1 : ¬ ((i : Int) < (s.size : Int)) := by omega
    have hp' : p < 1073741824 := hp
    refine .inl ⟨p, h0, by omega, ?_, ?_, ?_⟩
    · rw [sexp_Name.l0, if_neg e1]
    · rw [quitrentref35_IsName.l0, if_neg e1]
    · rw [quitrentref35_Name.l0, if_neg e1]
  | d + 1, i, k, p, hi, h0, hp, hk => by
    obtain ⟨j, rfl⟩ : ∃ j, k = j + 1 := ⟨k - 1, by omega⟩
    have e1 : (i : Int) < (s.size : Int) := by omega
    have e2 : (0 : Int) ≤ i := by omega
    obtain ⟨s1, s2, s3, s4⟩ := sg_spec (bt s i) (bt_range s i)
    have s5 := sign_k (bt s i) (bt_range s i) (k := j) (by omega)
    have hX : ((32 : Int) ^ (6 - d)) = 32 * 32 ^ (6 - (d + 1)) := by
      have : 6 - d = (6 - (d + 1)) + 1 := by omega
      rw [this, Int.pow_succ, Int.mul_comm]
    have hY : ((32 : Int) ^ (6 - (d + 1))) ≤ 32 ^ 5 := by
      have h1 : (32 : Nat) ^ (6 - (d + 1)) ≤ 32 ^ 5 := Nat.pow_le_pow_right (by omega) (by omega)
      have h2 : (((32 : Nat) ^ (6 - (d + 1)) : Nat) : Int) ≤ ((32 ^ 5 : Nat) : Int) := Int.ofNat_le.mpr h1
      rw [Int.natCast_pow, Int.natCast_pow] at h2
      exact h2
    have hY' : ((32 : Int) ^ (6 - (d + 1))) ≤ 33554432 := hY
    have w1 : wrap64 ((i : Int) + 1) = ((i + 1 : Nat) : Int) := by rw [w64 _ (by omega)]; omega
    rw [sexp_Name.l0, if_pos e1, if_pos e2, if_pos e1, s2, quitrentref35_IsName.l0, if_pos e1, if_pos e2, s5]
    simp only [Option.bind_some]
    by_cases z : sg (bt s i) = 0
    · rw [if_pos (by omega), if_pos z]
      exact .inr ⟨rfl, rfl⟩
    · rw [if_neg (by omega), if_neg z, quitrentref35_Name.l0, if_pos e1, if_pos e2, s5]
      simp only [Option.bind_some]
      have w2 : ((((p * 32) % 4294967296 + ((sg (bt s i) - 1) % 4294967296)) % 4294967296) + 1) % 4294967296 = p * 32 + sg (bt s i) := by omega
      have w3 : wrap64 (wrap64 (32 * p) + sg (bt s i)) = p * 32 + sg (bt s i) := by
        rw [w64 (32 * p) (by omega), w64 _ (by omega)]; omega
      rw [w1, w2, w3]
      exact names_l s h6 d (i + 1) j (p * 32 + sg (bt s i)) (by omega) (by omega) (by rw [hX]; omega) (by omega)

/-- A name and its number. -/
theorem names (s : ByteArray) (k : Nat) (hk : 60 ≤ k) :
    (∃ v : Int, 0 ≤ v ∧ v < 4294967296 ∧ sexp_Name.f k s = some (v, true) ∧ quitrentref35_IsName.f k s = some true ∧ quitrentref35_Name.f k s = some v)
    ∨ (sexp_Name.f k s = some (0, false) ∧ quitrentref35_IsName.f k s = some false) := by
  obtain ⟨j, rfl⟩ : ∃ j, k = j + 1 := ⟨k - 1, by omega⟩
  have hsz : s.toList = [] ↔ s.size = 0 := by
    have h := congrArg List.length (ByteArray.toList_eq s)
    rw [Array.length_toList] at h
    constructor
    · intro e; rw [e] at h; exact h.symm
    · intro e; exact List.length_eq_zero_iff.mp (h.trans e)
  unfold sexp_Name.f quitrentref35_IsName.f
  by_cases c1 : s.size = 0
  · rw [if_pos (hsz.mpr c1), if_pos (by omega), sexp_Name.j0, if_pos rfl, quitrentref35_IsName.j0, if_pos rfl]
    exact .inr ⟨rfl, rfl⟩
  · rw [if_neg (fun e => c1 (hsz.mp e)), if_neg (by omega)]
    by_cases c2 : (s.size : Int) > 6
    · rw [decide_eq_true c2, sexp_Name.j0, if_pos rfl, quitrentref35_IsName.j0, if_pos rfl]
      exact .inr ⟨rfl, rfl⟩
    · rw [decide_eq_false c2, sexp_Name.j0, if_neg (by decide), quitrentref35_IsName.j0, if_neg (by decide)]
      rcases names_l s (by omega) s.size 0 j 0 (by omega) (by omega) (by
        have h2 : (0 : Int) < (32 : Int) ^ (6 - s.size) := Int.pow_pos (by decide)
        exact h2) (by omega) with ⟨v, a, b, c, d, e⟩ | h
      · refine .inl ⟨v, a, b, c, d, ?_⟩
        exact quitrentref35_Name.mono s j v e
      · exact .inr h

theorem rev20 : ∀ (l : List Int), l.length ≤ 6 → slices_Reverse_byte_byte.f 20 l = some l.reverse
  | [], _ => by kernel_rfl
  | [a], _ => by kernel_rfl
  | [a, b], _ => by kernel_rfl
  | [a, b, c], _ => by kernel_rfl
  | [a, b, c, d], _ => by kernel_rfl
  | [a, b, c, d, e], _ => by kernel_rfl
  | [a, b, c, d, e, f], _ => by kernel_rfl
  | a :: b :: c :: d :: e :: f :: g :: l, h => by simp at h
theorem rev_k (l : List Int) (h : l.length ≤ 6) {k : Nat} (hk : 20 ≤ k) : slices_Reverse_byte_byte.f k l = some l.reverse :=
  up_le (F := fun k => slices_Reverse_byte_byte.f k l) (slices_Reverse_byte_byte.mono l) (rev20 l h) hk

def cutOk (r : Nat) : Bool := ((SG.extract r (r + 1)).data.toList == (strOfNums [bt SG (r : Int)]).data.toList)
theorem cutAll : (List.range 31).all cutOk = true := by decide +kernel
theorem cut (r : Nat) (h : r < 31) : SG.extract r (r + 1) = strOfNums [bt SG (r : Int)] := by
  have ha := List.all_eq_true.mp cutAll r (List.mem_range.mpr h)
  unfold cutOk at ha
  have hb := eq_of_beq ha
  exact ByteArray.ext (Array.toList_inj.mp hb)
theorem strOfNums_app (a b : List Int) : strOfNums a ++ strOfNums b = strOfNums (a ++ b) := by
  apply ByteArray.ext
  apply Array.toList_inj.mp
  simp [strOfNums]

theorem named_l : ∀ (m k : Nat) (x : Int) (l : List Int), l.length + m = 6 → 0 ≤ x → x < 4294967296 → m + 25 ≤ k →
    ∃ t t' b, sexp_Named.l0 k x l = some (t, b) ∧ quitrentref35_Named.l0 k x (strOfNums l.reverse) = some (t', b) ∧ (t.toList = t'.toList)
  | m, 0, x, l, hl, h0, h1, hk => by omega
  | m, j + 1, x, l, hl, h0, h1, hk => by
    rw [sexp_Named.l0, quitrentref35_Named.l0]
    by_cases c1 : x > 0
    · rw [if_pos c1, if_pos c1]
      have ht : Int.tmod x 32 = x % 32 := Int.tmod_eq_emod_of_nonneg h0
      have hd : Int.tdiv x 32 = x / 32 := Int.tdiv_eq_ediv_of_nonneg h0
      rw [ht, hd]
      by_cases c2 : x % 32 = 0
      · rw [if_pos c2, if_pos c2]
        exact ⟨_, _, _, rfl, rfl, rfl⟩
      · rw [if_neg c2, if_neg c2]
        have hs : ((strOfNums l.reverse).size : Int) = l.length := by rw [strOfNums_size, List.length_reverse]
        rw [hs]
        by_cases c3 : (l.length : Int) = 6
        · rw [if_pos c3, if_pos c3]
          exact ⟨_, _, _, rfl, rfl, rfl⟩
        · rw [if_neg c3, if_neg c3]
          have w1 : wrap64 (x % 32 - 1) = x % 32 - 1 := w64 _ (by omega)
          have w2 : (x % 32 - 1) % 4294967296 = x % 32 - 1 := by omega
          have w3 : wrap64 (x / 32) = x / 32 := w64 _ (by omega)
          have w4 : (x / 32) % 4294967296 = x / 32 := by omega
          rw [w1, w2, w3, w4, if_pos (by omega), if_pos (by omega), if_pos (by omega), if_pos (by omega), if_pos (by omega), if_pos (by omega)]
          have hr : (x % 32).toNat = (x % 32 - 1).toNat + 1 := by omega
          have hcut := cut (x % 32 - 1).toNat (by omega)
          rw [show (((x % 32 - 1).toNat : Nat) : Int) = x % 32 - 1 by omega, ← hr] at hcut
          have hcut' : (⟨#[97, 98, 99, 100, 101, 102, 103, 104, 105, 106, 107, 108, 109, 110, 111, 112, 113, 114, 115, 116, 117, 118, 119, 120, 121, 122, 43, 45, 42, 60, 61]⟩ : ByteArray).extract (x % 32 - 1).toNat (x % 32).toNat = strOfNums [bt SG (x % 32 - 1)] := hcut
          rw [hcut', strOfNums_app]
          have hsz : (strOfNums [bt SG (x % 32 - 1)]).size + (strOfNums l.reverse).size ≤ 9223372036854775807 := by
            rw [strOfNums_size, strOfNums_size, List.length_reverse]; simp; omega
          rw [if_pos hsz]
          have hrev : [bt SG (x % 32 - 1)] ++ l.reverse = (l ++ [bt SG (x % 32 - 1)]).reverse := by simp
          rw [hrev]
          obtain ⟨m', rfl⟩ : ∃ m', m = m' + 1 := ⟨m - 1, by omega⟩
          exact named_l m' j (x / 32) (l ++ [bt SG (x % 32 - 1)]) (by simp; omega) (by omega) (by omega) (by omega)
    · rw [if_neg c1, if_neg c1, rev_k l (by omega) (by omega)]
      refine ⟨_, _, _, rfl, ?_, rfl⟩
      congr 2
      have hq : (strOfNums l.reverse).toList = [] ↔ l.length = 0 := by
        have h := congrArg List.length (ByteArray.toList_eq (strOfNums l.reverse))
        rw [strOfNums_data, List.length_map, List.length_reverse] at h
        constructor
        · intro e; rw [e] at h; exact h.symm
        · intro e; exact List.length_eq_zero_iff.mp (h.trans e)
      by_cases c4 : l.length = 0
      · have := hq.mpr c4
        rw [this]
        simp [c4]
      · have h5 : (strOfNums l.reverse).toList ≠ [] := fun e => c4 (hq.mp e)
        rw [bne_iff_ne.mpr h5]
        exact (decide_eq_true (by omega)).symm

theorem named (n : Int) (h0 : 0 ≤ n) (h1 : n < 4294967296) (k : Nat) (hk : 60 ≤ k) :
    ∃ t t' b, sexp_Named.f k n = some (t, b) ∧ quitrentref35_Named.f k n = some (t', b) ∧ t.toList = t'.toList :=
  named_l 6 k n [] rfl h0 h1 (by omega)

theorem sexpNames_all (a0 : ByteArray) (a1 : Int) (hw : (Lit.int .u32 a1).wf = true) : quitrentlaw35_SexpNames.f 100 a0 a1 = some true := by
  have hr : 0 ≤ a1 ∧ a1 < 4294967296 := by
    have := bounds_u32 hw
    omega
  have hj : quitrentlaw35_SexpNames.j0 100 a1 false = some true := by
    obtain ⟨t, t', b, e1, e2, e3⟩ := named a1 hr.1 hr.2 99 (by omega)
    rw [quitrentlaw35_SexpNames.j0, if_neg (by decide), e1]
    simp only [Option.bind_some]
    rw [w64 a1 (by omega), e2]
    simp only [Option.bind_some]
    rw [quitrentlaw35_begun.f]
    simp only [Option.bind_some]
    rw [if_pos trivial, if_pos (beq_self_eq_true b), if_pos e3]
  unfold quitrentlaw35_SexpNames.f
  rcases names a0 100 (by omega) with ⟨v, v0, v1, e1, e2, e3⟩ | ⟨e1, e2⟩
  · rw [e1, e2]
    simp only [Option.bind_some]
    rw [if_neg (by decide), if_pos trivial, e3]
    simp only [Option.bind_some]
    rw [w64 v (by omega), if_pos rfl]
    exact hj
  · rw [e1, e2]
    simp only [Option.bind_some]
    rw [if_neg (by decide), if_neg (by decide)]
    exact hj
end Go.Proofs.Ytbcnfnpjookndaa.PP
