/- How a law's arguments are opened: what a reading of the arguments says of the cells, in the words of this seat. -/
import Derived.Test.YtdlacjbicjhfgaaDoorBase
import Derived.SliceStrings
import Derived.Deep.Grids
import Derived.OpenShut
import Derived.Deep.Matrix
namespace Go.Proofs.YtdlacjbicjhfgaaDoor
open Go.RowKit Go.Proofs.YtdlacjbicjhfgaaDoorW.PrintWords

theorem C_of_cells {α : Type} {enc : α → Value} {h1 : ∀ x, (enc x).oneCell' = true} (d : α) {W : World} {a : Addr} (xs : List α) (hm : xs.length ≤ 9223372036854775807) (hc : ∀ i, i < xs.length → W.cell? (a.add i) = some (enc (xs.getD i d))) :
    Kd.C (Kd.scalar enc h1) W (some a) xs.length xs := by
  refine ⟨rfl, hm, fun _ => ⟨a, rfl, fun j p hj => ⟨[enc p], rfl, rfl, fun i u hu => ?_⟩⟩⟩
  have hi : i = 0 := by have := (List.getElem?_eq_some_iff.1 hu).1; simp at this; omega
  subst hi
  have hjl : j < xs.length := (List.getElem?_eq_some_iff.1 hj).1
  have e : xs.getD j d = p := by simp [List.getD, hj]
  simp at hu
  subst hu
  rw [show j * (Kd.scalar enc h1).sz + 0 = j by simp [Kd.scalar], hc j hjl, e]

variable {H : Type} {enc : TypeId × Value → H} {P : Program} {W : World} {fuel : Nat} {cs : List Value} {x : DataW H × List MemPlace} {t e : TypeId}
theorem opened_strings (ht : P.underlying t = some (.slice e)) (he : P.underlying e = some .string) (hc : P.cellsOf e = 1) (h : DataW.trod enc P W 0 (fun _ => true) true fuel t cs = some x) :
    ∃ (A : Option Addr) (l : List ByteArray) (c : Nat), cs = [.slice A l.length c] ∧ Kd.C Kd.string W A l.length l ∧ (∀ s ∈ l, s.size ≤ maxLen) ∧ l.length ≤ c ∧ (A = none → c = 0) := by
  rcases Go.ChangeShapes.open_strings ht he hc h with ⟨hcs, _⟩ | ⟨a, len, cap, ss, hcs, _, hl, hm, hn, _, hcell, hwz⟩
  · exact ⟨none, [], 0, hcs, ⟨rfl, by simp, fun h => absurd h (by simp)⟩, by simp, by simp, fun _ => rfl⟩
  · simp only [if_true] at hn
    have hll : (ss.take len).length = len := by simp; omega
    simp only [maxLen] at hm
    refine ⟨some a, ss.take len, cap, by rw [hll]; exact hcs, C_of_cells ByteArray.empty _ (by omega) (fun i hi => ?_), fun s hs => hwz s (List.mem_of_mem_take hs), by omega, fun h => by cases h⟩
    rw [hcell i (by omega)]
    have : i < len := by omega
    simp [List.getD, this]
theorem opened_bools (ht : P.underlying t = some (.slice e)) (he : P.underlying e = some .bool) (hc : P.cellsOf e = 1) (h : DataW.trod enc P W 0 (fun _ => true) true fuel t cs = some x) :
    ∃ (A : Option Addr) (l : List Bool) (c : Nat), cs = [.slice A l.length c] ∧ Kd.C Kd.bool W A l.length l ∧ l.length ≤ c ∧ (A = none → c = 0) := by
  rcases Go.Deep.open_bools ht he hc h with ⟨hcs, _⟩ | ⟨a, len, cap, B, hcs, _, hl, hm, _, hcell⟩
  · exact ⟨none, [], 0, hcs, ⟨rfl, by simp, fun h => absurd h (by simp)⟩, by simp, fun _ => rfl⟩
  · have hll : ((List.range len).map B).length = len := by simp
    simp only [maxLen] at hm
    refine ⟨some a, (List.range len).map B, cap, by rw [hll]; exact hcs, C_of_cells false _ (by omega) (fun i hi => ?_), by omega, fun h => by cases h⟩
    rw [hcell i (by omega)]
    have : i < len := by omega
    simp [List.getD, this]
theorem opened_ints {k : IntKind} (ht : P.underlying t = some (.slice e)) (he : P.underlying e = some (.int k)) (hc : P.cellsOf e = 1) (h : DataW.trod enc P W 0 (fun _ => true) true fuel t cs = some x) :
    ∃ (A : Option Addr) (l : List Int) (c : Nat), cs = [.slice A l.length c] ∧ Kd.C (Kd.int k) W A l.length l ∧ (∀ n ∈ l, (Lit.int k n).wf = true) ∧ l.length ≤ c ∧ (A = none → c = 0) := by
  rcases Go.ChangeShapes.open_ints ht he hc h with ⟨hcs, _⟩ | ⟨a, len, cap, zs, hcs, _, hl, hm, hn, _, hcell, hwz⟩
  · exact ⟨none, [], 0, hcs, ⟨rfl, by simp, fun h => absurd h (by simp)⟩, by simp, by simp, fun _ => rfl⟩
  · simp only [if_true] at hn
    have hll : (zs.take len).length = len := by simp; omega
    simp only [maxLen] at hm
    refine ⟨some a, zs.take len, cap, by rw [hll]; exact hcs, C_of_cells 0 _ (by omega) (fun i hi => ?_), fun s hs => hwz s (List.mem_of_mem_take hs), by omega, fun h => by cases h⟩
    rw [hcell i (by omega)]
    have : i < len := by omega
    simp [List.getD, this]

theorem opened_rows {k : IntKind} {q ee : TypeId} (ht : P.underlying t = some (.slice e)) (he : P.underlying e = some (.slice q)) (hq : P.underlying q = some (.int k)) (ce : P.cellsOf e = 1) (cq : P.cellsOf q = 1) (h : DataW.trod enc P W 0 (fun _ => true) true fuel t cs = some x) :
    ∃ (A : Option Addr) (l : List (List Int)) (c : Nat), cs = [.slice A l.length c] ∧ Kd.C (Kd.slice ee (Kd.int k)) W A l.length l ∧ (∀ xs ∈ l, ∀ n ∈ xs, (Lit.int k n).wf = true) ∧ l.length ≤ c ∧ (A = none → c = 0) ∧
      (∀ (j : Nat) (a : Addr) (B : Option Addr) (n d : Nat), A = some a → j < l.length → W.cell? (a.add j) = some (Value.slice B n d) → B = none → d = 0) := by
  rcases Go.Deep.open_int_rows ht he hq ce cq h with ⟨hcs, _⟩ | ⟨a, len, cap, A, L, C, Z, hcs, _, hl, hm, _, hr⟩
  · exact ⟨none, [], 0, hcs, ⟨rfl, by simp, fun h => absurd h (by simp)⟩, by simp, by simp, fun _ => rfl, fun _ _ _ _ _ h => by cases h⟩
  · have hll : ((List.range len).map fun r => (Z r).take (L r)).length = len := by simp
    simp only [maxLen] at hm
    refine ⟨some a, (List.range len).map fun r => (Z r).take (L r), cap, by rw [hll]; exact hcs, ⟨rfl, by rw [hll]; omega, fun _ => ⟨a, rfl, fun j p hj => ?_⟩⟩, ?_, by rw [hll]; exact hl, (fun h => by cases h), ?_⟩
    · have hjl : j < len := by have := (List.getElem?_eq_some_iff.1 hj).1; rwa [hll] at this
      obtain ⟨h1, h2, h3, h4, h5, h6, h7⟩ := hr j (by omega)
      have hp : p = (Z j).take (L j) := by
        rw [List.getElem?_map, List.getElem?_range hjl] at hj
        simpa using hj.symm
      have hpl : p.length = L j := by rw [hp, List.length_take]; omega
      simp only [maxLen] at h3
      refine ⟨[.slice (A j) p.length (C j)], rfl, ⟨A j, C j, rfl, by omega, ?_⟩, fun i u hu => ?_⟩
      · cases hA : A j with
        | none =>
          have hc0 := h6 hA
          have : p = [] := List.eq_nil_of_length_eq_zero (by omega)
          subst this
          exact C_nil _ _ _
        | some a' =>
          have h8 := (h7 a' hA).2
          refine C_of_cells 0 p (by omega) (fun i hi => ?_)
          rw [h8 i (by omega), hp]
          have : i < L j := by omega
          simp [List.getD, List.getElem?_take, this]
      · have hi : i = 0 := by have := (List.getElem?_eq_some_iff.1 hu).1; simp at this; omega
        subst hi
        rw [show j * (Kd.slice ee (Kd.int k)).sz + 0 = j by simp [Kd.slice], h1]
        simp at hu
        rw [← hu, hpl]
    · intro xs hxs n hn
      obtain ⟨r, hr1, rfl⟩ := List.mem_map.1 hxs
      have hrl : r < len := by simpa using hr1
      exact (hr r (by omega)).2.2.2.2.1 n (List.mem_of_mem_take hn)
    · intro j a2 B n d ha hj hcell hB
      obtain rfl := Option.some.inj ha
      rw [hll] at hj
      obtain ⟨h1, h2, h3, h4, h5, h6, h7⟩ := hr j (by omega)
      rw [h1] at hcell
      injection hcell with hcell
      injection hcell with e1 e2 e3
      rw [← e3]
      exact h6 (e1.trans hB)

end Go.Proofs.YtdlacjbicjhfgaaDoor
