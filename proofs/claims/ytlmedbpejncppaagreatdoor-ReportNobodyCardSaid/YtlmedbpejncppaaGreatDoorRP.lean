/-
  ReportChanges: the plain law: what went and what came.
-/
import Derived.Test.YtlmedbpejncppaaGreatDoorF5
namespace Go.Proofs.YtlmedbpejncppaaGreatDoor.PP
open Go Go.RowKit Go.Proofs.YtlmedbpejncppaaGreatDoorW.PrintWords Go.Proofs.YtlmedbpejncppaaGreatDoorW.PrintLast Go.Proofs.YtlmedbpejncppaaGreatDoorW.PrintMore
set_option linter.unusedVariables false
set_option linter.unusedSimpArgs false

/-- Is a text among some? -/
def hasL (l : List ByteArray) (s : ByteArray) : Bool := l.any fun x => decide (x.toList = s.toList)
/-- The texts of one that the other one doesn't have, behind a sign. -/
def goneL (a b : List ByteArray) (sign : ByteArray) : List ByteArray := (a.filter fun x => !hasL b x).map fun x => sign ++ x
theorem hasL_cons (x : ByteArray) (l : List ByteArray) (s : ByteArray) : hasL (x :: l) s = (decide (x.toList = s.toList) || hasL l s) := rfl
theorem rd_at {l : List ByteArray} {i : Nat} (h : i < l.length) : rdOf ByteArray.empty l (i : Int) = l[i] := by
  unfold rdOf
  simp [List.getD, List.getElem?_eq_getElem h]
theorem wrap_at {i : Nat} (h : i ≤ 8796093022208) : wrap64 ((i : Int) + 1) = ((i + 1 : Nat) : Int) := by
  unfold wrap64
  omega
theorem drop_at {l : List ByteArray} {i : Nat} (h : i < l.length) : l.drop i = l[i] :: l.drop (i + 1) := List.drop_eq_getElem_cons h

theorem index_tells (x0 : List ByteArray) (x1 : ByteArray) (hl : x0.length ≤ 8796093022208) : ∀ (d k i : Nat), i + d = x0.length → d < k →
    ∃ r, slices_Index_string_string.l0 k x0 x1 (x0.length : Int) (i : Int) = some r ∧ decide (r ≥ 0) = hasL (x0.drop i) x1
  | 0, k, i, hd, hk => by
    obtain ⟨k, rfl⟩ : ∃ m, k = m + 1 := ⟨k - 1, by omega⟩
    refine ⟨-1, ?_, ?_⟩
    · simp only [slices_Index_string_string.l0]; rw [if_neg (by omega)]
    · rw [List.drop_eq_nil_of_le (by omega)]; rfl
  | d + 1, k, i, hd, hk => by
    obtain ⟨k, rfl⟩ : ∃ m, k = m + 1 := ⟨k - 1, by omega⟩
    have hi : i < x0.length := by omega
    simp only [slices_Index_string_string.l0]
    rw [if_pos (by omega), if_pos (by omega), if_pos (by omega), rd_at hi, drop_at hi]
    by_cases e : x1.toList = (x0[i]).toList
    · rw [if_pos e]
      refine ⟨i, rfl, ?_⟩
      rw [hasL_cons, decide_eq_true e.symm, Bool.true_or, decide_eq_true_iff]; omega
    · rw [if_neg e, wrap_at (by omega)]
      obtain ⟨r, h1, h2⟩ := index_tells x0 x1 hl d k (i + 1) (by omega) (by omega)
      refine ⟨r, h1, ?_⟩
      have e' : ¬ (x0[i]).toList = x1.toList := fun h => e h.symm
      rw [h2, hasL_cons, decide_eq_false e', Bool.false_or]
theorem contains_tells (x0 : List ByteArray) (x1 : ByteArray) (hl : x0.length ≤ 8796093022208) (k : Nat) (hk : x0.length < k) : slices_Contains_string_string.f k x0 x1 = some (hasL x0 x1) := by
  obtain ⟨r, h1, h2⟩ := index_tells x0 x1 hl x0.length k 0 (by omega) hk
  unfold slices_Contains_string_string.f slices_Index_string_string.f
  have h1 : slices_Index_string_string.l0 k x0 x1 (x0.length : Int) 0 = some r := h1
  rw [h1]
  simp only [Option.bind_some]
  rw [h2]; rfl
theorem has_tells (x0 : List ByteArray) (x1 : ByteArray) (hl : x0.length ≤ 8796093022208) : ∀ (d k i : Nat), i + d = x0.length → d < k →
    quitrentref33_has.l0 k x0 x1 (i : Int) = some (hasL (x0.drop i) x1)
  | 0, k, i, hd, hk => by
    obtain ⟨k, rfl⟩ : ∃ m, k = m + 1 := ⟨k - 1, by omega⟩
    simp only [quitrentref33_has.l0]
    rw [if_neg (by omega), List.drop_eq_nil_of_le (by omega)]; rfl
  | d + 1, k, i, hd, hk => by
    obtain ⟨k, rfl⟩ : ∃ m, k = m + 1 := ⟨k - 1, by omega⟩
    have hi : i < x0.length := by omega
    simp only [quitrentref33_has.l0]
    rw [if_pos (by omega), if_pos (by omega), rd_at hi, drop_at hi]
    by_cases e : (x0[i]).toList = x1.toList
    · rw [if_pos e, hasL_cons, decide_eq_true e, Bool.true_or]
    · rw [if_neg e, wrap_at (by omega), has_tells x0 x1 hl d k (i + 1) (by omega) (by omega), hasL_cons, decide_eq_false e, Bool.false_or]
theorem has_f (x0 : List ByteArray) (x1 : ByteArray) (hl : x0.length ≤ 8796093022208) (k : Nat) (hk : x0.length < k) : quitrentref33_has.f k x0 x1 = some (hasL x0 x1) :=
  has_tells x0 x1 hl x0.length k 0 (by omega) hk
theorem goneL_cons (x : ByteArray) (a b : List ByteArray) (s : ByteArray) : goneL (x :: a) b s = if hasL b x = true then goneL a b s else (s ++ x) :: goneL a b s := by
  unfold goneL
  by_cases h : hasL b x = true
  · simp [h]
  · simp [h]
theorem gone_tells (x1 : List ByteArray) (x2 : ByteArray) (x10 : List ByteArray) (h1 : x1.length ≤ 100) (h10 : x10.length ≤ 100) (h2 : x2.size = 1) (hs : ∀ x ∈ x10, x.size ≤ 140737488351232) : ∀ (d k i : Nat) (acc : List ByteArray), i + d = x10.length → d + x1.length + 1 < k → acc.length ≤ i →
    report_gone.l0 k x1 x2 acc x10 (x10.length : Int) (i : Int) = some (acc ++ goneL (x10.drop i) x1 (x2 ++ (⟨#[32]⟩ : ByteArray)))
  | 0, k, i, acc, hd, hk, ha => by
    obtain ⟨k, rfl⟩ : ∃ m, k = m + 1 := ⟨k - 1, by omega⟩
    simp only [report_gone.l0]
    rw [if_neg (by omega), List.drop_eq_nil_of_le (by omega)]
    simp [goneL]
  | d + 1, k, i, acc, hd, hk, ha => by
    obtain ⟨k, rfl⟩ : ∃ m, k = m + 1 := ⟨k - 1, by omega⟩
    have hi : i < x10.length := by omega
    have hsz := hs x10[i] (List.getElem_mem hi)
    simp only [report_gone.l0]
    rw [if_pos (by omega), if_pos (by omega), if_pos (by omega), rd_at hi, contains_tells x1 x10[i] (by omega) k (by omega), drop_at hi, goneL_cons]
    simp only [Option.bind_some]
    by_cases e : hasL x1 x10[i] = true
    · rw [if_pos e, if_pos e, wrap_at (by omega)]
      exact gone_tells x1 x2 x10 h1 h10 h2 hs d k (i + 1) acc (by omega) (by omega) (by omega)
    · have hz : (x2 ++ (⟨#[32]⟩ : ByteArray)).size = 2 := by
        rw [ByteArray.size_append, h2]; rfl
      rw [if_neg e, if_neg e, if_pos (by omega), if_pos (by omega), if_pos (by omega), wrap_at (by omega),
        gone_tells x1 x2 x10 h1 h10 h2 hs d k (i + 1) _ (by omega) (by omega) (by simp; omega)]
      simp
theorem gone_f (x1 : List ByteArray) (x2 : ByteArray) (x10 : List ByteArray) (h1 : x1.length ≤ 100) (h10 : x10.length ≤ 100) (h2 : x2.size = 1) (hs : ∀ x ∈ x10, x.size ≤ 140737488351232) (k : Nat) (hk : x10.length + x1.length + 1 < k) :
    report_gone.f k x10 x1 x2 = some (goneL x10 x1 (x2 ++ (⟨#[32]⟩ : ByteArray))) := by
  have := gone_tells x1 x2 x10 h1 h10 h2 hs x10.length k 0 [] (by omega) hk (by simp)
  rw [List.drop_zero, List.nil_append] at this
  exact this
theorem minus : ((⟨#[45]⟩ : ByteArray) ++ (⟨#[32]⟩ : ByteArray)) = ⟨#[45, 32]⟩ := by
  apply ByteArray.ext; simp
theorem plus : ((⟨#[43]⟩ : ByteArray) ++ (⟨#[32]⟩ : ByteArray)) = ⟨#[43, 32]⟩ := by
  apply ByteArray.ext; simp
theorem goneL_length (a b : List ByteArray) (s : ByteArray) : (goneL a b s).length ≤ a.length := by
  unfold goneL
  rw [List.length_map]
  exact List.length_filter_le _ _
/-- What changed. -/
def changed (a b : List ByteArray) : List ByteArray := goneL a b ⟨#[45, 32]⟩ ++ goneL b a ⟨#[43, 32]⟩
theorem changes_f (a b : List ByteArray) (ha : a.length ≤ 100) (hb : b.length ≤ 100) (hsa : ∀ x ∈ a, x.size ≤ 140737488351232) (hsb : ∀ x ∈ b, x.size ≤ 140737488351232) (k : Nat) (hk : 300 < k) :
    report_Changes.f k a b = some (changed a b) := by
  unfold report_Changes.f
  rw [gone_f b ⟨#[45]⟩ a hb ha rfl hsa k (by omega), gone_f a ⟨#[43]⟩ b ha hb rfl hsb k (by omega), minus, plus]
  simp only [Option.bind_some]
  have h1 := goneL_length a b ⟨#[45, 32]⟩
  have h2 := goneL_length b a ⟨#[43, 32]⟩
  rw [if_pos (by omega)]
  rfl
theorem ref_l1 (x0 x1 : List ByteArray) (h0 : x0.length ≤ 100) (h1 : x1.length ≤ 100) (hs : ∀ x ∈ x1, x.size ≤ 140737488351232) : ∀ (d k i : Nat) (acc : List ByteArray), i + d = x1.length → d + x0.length + 1 < k → acc.length ≤ 100 + i →
    quitrentref33_Changes.l1 k x0 x1 acc (i : Int) = some (acc ++ goneL (x1.drop i) x0 ⟨#[43, 32]⟩)
  | 0, k, i, acc, hd, hk, ha => by
    obtain ⟨k, rfl⟩ : ∃ m, k = m + 1 := ⟨k - 1, by omega⟩
    simp only [quitrentref33_Changes.l1]
    rw [if_neg (by omega), List.drop_eq_nil_of_le (by omega)]
    simp [goneL]
  | d + 1, k, i, acc, hd, hk, ha => by
    obtain ⟨k, rfl⟩ : ∃ m, k = m + 1 := ⟨k - 1, by omega⟩
    have hi : i < x1.length := by omega
    have hsz := hs x1[i] (List.getElem_mem hi)
    simp only [quitrentref33_Changes.l1]
    rw [if_pos (by omega), if_pos (by omega), rd_at hi, has_f x0 x1[i] (by omega) k (by omega), drop_at hi, goneL_cons]
    simp only [Option.bind_some]
    by_cases e : hasL x0 x1[i] = true
    · rw [if_pos e, if_pos e, wrap_at (by omega)]
      exact ref_l1 x0 x1 h0 h1 hs d k (i + 1) acc (by omega) (by omega) (by omega)
    · rw [if_neg e, if_neg e, if_pos (by omega), if_pos (by omega), wrap_at (by omega),
        ref_l1 x0 x1 h0 h1 hs d k (i + 1) _ (by omega) (by omega) (by simp; omega)]
      simp
theorem ref_l0 (x0 x1 : List ByteArray) (h0 : x0.length ≤ 100) (h1 : x1.length ≤ 100) (hs0 : ∀ x ∈ x0, x.size ≤ 140737488351232) (hs : ∀ x ∈ x1, x.size ≤ 140737488351232) : ∀ (d k i : Nat) (acc : List ByteArray), i + d = x0.length → d + 300 < k → acc.length ≤ i →
    quitrentref33_Changes.l0 k x0 x1 acc (i : Int) = some (acc ++ goneL (x0.drop i) x1 ⟨#[45, 32]⟩ ++ goneL x1 x0 ⟨#[43, 32]⟩)
  | 0, k, i, acc, hd, hk, ha => by
    obtain ⟨k, rfl⟩ : ∃ m, k = m + 1 := ⟨k - 1, by omega⟩
    simp only [quitrentref33_Changes.l0]
    rw [if_neg (by omega), List.drop_eq_nil_of_le (by omega)]
    have := ref_l1 x0 x1 h0 h1 hs x1.length k 0 acc (by omega) (by omega) (by omega)
    have e0 : ((0 : Nat) : Int) = 0 := rfl
    rw [e0] at this
    rw [this]
    simp [goneL]
  | d + 1, k, i, acc, hd, hk, ha => by
    obtain ⟨k, rfl⟩ : ∃ m, k = m + 1 := ⟨k - 1, by omega⟩
    have hi : i < x0.length := by omega
    have hsz := hs0 x0[i] (List.getElem_mem hi)
    simp only [quitrentref33_Changes.l0]
    rw [if_pos (by omega), if_pos (by omega), rd_at hi, has_f x1 x0[i] (by omega) k (by omega), drop_at hi, goneL_cons]
    simp only [Option.bind_some]
    by_cases e : hasL x1 x0[i] = true
    · rw [if_pos e, if_pos e, wrap_at (by omega)]
      exact ref_l0 x0 x1 h0 h1 hs0 hs d k (i + 1) acc (by omega) (by omega) (by omega)
    · rw [if_neg e, if_neg e, if_pos (by omega), if_pos (by omega), wrap_at (by omega),
        ref_l0 x0 x1 h0 h1 hs0 hs d k (i + 1) _ (by omega) (by omega) (by simp; omega)]
      simp
theorem ref_f (a b : List ByteArray) (ha : a.length ≤ 100) (hb : b.length ≤ 100) (hsa : ∀ x ∈ a, x.size ≤ 140737488351232) (hsb : ∀ x ∈ b, x.size ≤ 140737488351232) (k : Nat) (hk : 500 < k) :
    quitrentref33_Changes.f k a b = some (changed a b) := by
  have := ref_l0 a b ha hb hsa hsb a.length k 0 [] (by omega) (by omega) (by simp)
  rw [List.drop_zero, List.nil_append] at this
  exact this
theorem same_l0 (l : List ByteArray) (hl : l.length ≤ 8796093022208) : ∀ (d k i : Nat), i + d = l.length → d < k → quitrentref33_Same.l0 k l l (i : Int) = some true
  | 0, k, i, hd, hk => by
    obtain ⟨k, rfl⟩ : ∃ m, k = m + 1 := ⟨k - 1, by omega⟩
    simp only [quitrentref33_Same.l0]
    rw [if_neg (by omega)]
  | d + 1, k, i, hd, hk => by
    obtain ⟨k, rfl⟩ : ∃ m, k = m + 1 := ⟨k - 1, by omega⟩
    simp only [quitrentref33_Same.l0]
    rw [if_pos (by omega), if_pos (by omega), if_pos (by omega), if_pos trivial, wrap_at (by omega)]
    exact same_l0 l hl d k (i + 1) (by omega) (by omega)
theorem same_f (l : List ByteArray) (hl : l.length ≤ 200) (k : Nat) (hk : 300 < k) : quitrentref33_Same.f k l l = some true := by
  unfold quitrentref33_Same.f
  rw [if_pos rfl]
  exact same_l0 l (by omega) l.length k 0 (by omega) (by omega)
theorem gone_self (a : List ByteArray) (s : ByteArray) : goneL a a s = [] := by
  unfold goneL
  rw [List.map_eq_nil_iff, List.filter_eq_nil_iff]
  intro x hx
  have : hasL a x = true := by
    unfold hasL
    rw [List.any_eq_true]
    exact ⟨x, hx, by simp⟩
  simp [this]
theorem changes_true (a b : List ByteArray) (hsa : ∀ x ∈ a, x.size ≤ 140737488351232) (hsb : ∀ x ∈ b, x.size ≤ 140737488351232) : quitrentlaw33_ReportChanges.f 1000 a b = some true := by
  have hbeg : quitrentlaw33_begun.f = some true := rfl
  have early : ∀ k, quitrentlaw33_ReportChanges.j0 (k + 1) a b true = some true := fun k => by
    simp only [quitrentlaw33_ReportChanges.j0]
    rw [if_pos trivial, hbeg]; rfl
  unfold quitrentlaw33_ReportChanges.f
  by_cases ha : (a.length : Int) > 100
  · rw [if_pos ha]; exact early 999
  · rw [if_neg ha]
    by_cases hb : (b.length : Int) > 100
    · rw [decide_eq_true hb]; exact early 999
    · rw [decide_eq_false hb]
      have ha : a.length ≤ 100 := by omega
      have hb : b.length ≤ 100 := by omega
      have hlen : (changed a b).length ≤ 200 := by
        have h1 := goneL_length a b ⟨#[45, 32]⟩
        have h2 := goneL_length b a ⟨#[43, 32]⟩
        unfold changed
        rw [List.length_append]; omega
      have hself : changed a a = [] := by unfold changed; rw [gone_self, gone_self]; rfl
      show quitrentlaw33_ReportChanges.j0 (999 + 1) a b false = some true
      simp only [quitrentlaw33_ReportChanges.j0]
      rw [if_neg (by simp), hbeg]
      simp only [Option.bind_some, if_true]
      rw [changes_f a b ha hb hsa hsb 999 (by omega), ref_f a b ha hb hsa hsb 999 (by omega)]
      simp only [Option.bind_some]
      rw [same_f _ hlen 999 (by omega)]
      simp only [Option.bind_some, if_true]
      rw [changes_f a a ha ha hsa hsa 999 (by omega), hself]
      rfl
end Go.Proofs.YtlmedbpejncppaaGreatDoor.PP
