/-
  A slice of texts that is handed in: what it reads as.
-/
import Derived.Test.YtlmedbpejncppaaGreatDoorK
import Derived.SizedLaws
import Derived.ProofKit
namespace Go.Proofs.YtlmedbpejncppaaGreatDoor.PP
open Go Go.ChangeShapes Go.WideShapes Go.ChangeAt Go.RowKit Go.Proofs.YtlmedbpejncppaaGreatDoorW.PrintWords
set_option linter.unusedVariables false
set_option linter.unusedSimpArgs false
variable {H : Type} {enc : TypeId × Value → H} {P : Program} {W : World} {sp : Nat → Bool} {held : Bool} {base : Nat}
def strOf (y : DataW H × List MemPlace) : ByteArray := match y.1 with
  | .lit (.string bs) => ⟨bs.toArray⟩
  | _ => ByteArray.empty
theorem weightsAll_mem {e : TypeId} {n : Nat} : ∀ {ds : List (DataW H)} {d : DataW H}, d ∈ ds → n ∈ d.weights P e → n ∈ DataW.weightsAll P e ds
  | [], d, h, _ => by cases h
  | x :: xs, d, h, hn => by
    rw [DataW.weightsAll, List.mem_append]
    rcases List.mem_cons.1 h with h | h
    · subst h; exact .inl hn
    · exact .inr (weightsAll_mem h hn)
theorem strs_open {t e : TypeId} (ht : P.underlying t = some (.slice e)) (he : P.underlying e = some .string) (hc : P.cellsOf e = 1) {ts : List TypeId} {ds : List (DataW H)} {j : Nat} {d : DataW H} {ps : List MemPlace} {a : Option Addr} {len cap : Nat}
    (hsz : (DataW.weightsEach P ts ds).all (· ≤ reachBytes) = true) (htj : ts[j]? = some t) (hdj : ds[j]? = some d) (h : DataW.Trod enc P W base sp held t (.slice a len cap) d ps) :
    ∃ l : List ByteArray, l.length = len ∧ len ≤ cap ∧ Kd.C Kd.string W a len l ∧ ∀ x ∈ l, x.size ≤ 140737488351232 := by
  obtain ⟨fuel, hf⟩ := h
  rcases DataW.trod_slice ht hf with ⟨hcs, _⟩ | ⟨a', len', cap', elems, rest, n, _, hcs, hx, hb, hl, hm, hlen, hel, _, _⟩
  · simp [Value.cells] at hcs
    obtain ⟨rfl, rfl, rfl⟩ := hcs
    exact ⟨[], rfl, Nat.le_refl _, ⟨rfl, by omega, fun h => by omega⟩, fun x hx => by cases hx⟩
  · simp [Value.cells] at hcs
    obtain ⟨rfl, rfl, rfl⟩ := hcs
    have each : ∀ i y, elems[i]? = some y → W.cell? (a'.add i) = some (.string (strOf y)) ∧ y.1 = .lit (.string (strOf y).data.toList) := by
      intro i y hy
      have hi : i < len := by have := (List.getElem?_eq_some_iff.1 hy).1; omega
      have hb' := hel i hi
      rw [hy, hc, Nat.mul_one, Option.bind_eq_some_iff] at hb'
      obtain ⟨cs', hcs, hy'⟩ := hb'
      obtain ⟨s, rfl, rfl, _⟩ := DataW.trod_string he hy'
      have hs : strOf ((.lit (.string s.data.toList), []) : DataW H × List MemPlace) = s := by simp [strOf]
      rw [hs]
      exact ⟨cell_of_cells?_one hcs, rfl⟩
    refine ⟨elems.map strOf, by simp [hlen], hl, ⟨by simp [hlen], by have : maxLen = 9223372036854775807 := rfl; omega, fun _ => ⟨a', rfl, fun i p hp => ?_⟩⟩, fun x hx' => ?_⟩
    · rw [List.getElem?_map, Option.map_eq_some_iff] at hp
      obtain ⟨y, hy, rfl⟩ := hp
      refine ⟨[.string (strOf y)], rfl, rfl, fun q u hu => ?_⟩
      cases q with
      | zero =>
        simp at hu
        subst hu
        have e1 : i * Kd.string.sz + 0 = i := by show i * 1 + 0 = i; omega
        rw [e1]
        exact (each i y hy).1
      | succ q => simp at hu
    · obtain ⟨y, hy, rfl⟩ := List.mem_map.1 hx'
      obtain ⟨i, hi⟩ := List.getElem?_of_mem hy
      obtain ⟨_, h2⟩ := each i y hi
      obtain ⟨hx1, _⟩ := Prod.mk.inj hx
      have hmem : (strOf y).data.toList.length ∈ d.weights P t := by
        rw [hx1, DataW.weights, ht]
        simp only [List.mem_cons, List.mem_append]
        refine .inr (.inl (weightsAll_mem (d := y.1) (List.mem_map.2 ⟨y, hy, rfl⟩) ?_))
        rw [h2, DataW.weights]
        exact .head _
      have := DataW.weights_mem_each htj hdj _ hmem
      rw [List.all_eq_true] at hsz
      have := hsz _ this
      have hr : reachBytes = 140737488351232 := rfl
      simp only [decide_eq_true_eq, Array.length_toList] at this
      rw [hr] at this
      exact this
end Go.Proofs.YtlmedbpejncppaaGreatDoor.PP
