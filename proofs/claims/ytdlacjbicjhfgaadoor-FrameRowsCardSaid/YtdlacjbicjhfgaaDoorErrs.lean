/- The package's errors as values: each stands in its variable, told by its place (101 and on). -/
import Derived.Test.YtdlacjbicjhfgaaDoorBase
import Derived.WideLaws
namespace Go.Proofs.YtdlacjbicjhfgaaDoor
open Go.RowKit Go.Proofs.YtdlacjbicjhfgaaDoorW.PrintWords

/-- an error's value: nil, or the one whose pointer is ad c -/
def errV (ad : Nat → Addr) : Option Nat → Value
  | none => .nilIface
  | some c => .iface 77 (.pointer (some (ad c)))
/-- the variable in which an error stands -/
def gnum : Nat → Nat
  | 101 => 2
  | 102 => 1
  | 103 => 3
  | 104 => 4
  | 105 => 0
  | 106 => 5
  | 107 => 6
  | 108 => 7
  | 109 => 8
  | 110 => 9
  | 111 => 10
  | 112 => 11
  | 113 => 12
  | 114 => 13
  | 115 => 14
  | 116 => 15
  | _ => 0
/-- the errors of the list L stand in their variables; what they point to is there -/
def EOk (L : List Nat) (ad : Nat → Addr) (w : World) : Prop :=
  ∀ c ∈ L, w.cell? ⟨gnum c, 0, none⟩ = some (errV ad (some c)) ∧ gnum c < w.heap.size ∧ ∃ cs t, w.heap[(ad c).block]? = some (.cells cs t (0, 0))
/-- no block of S is one of these errors' variables, or what they point to -/
def NoG (L : List Nat) (ad : Nat → Addr) (S : Nat → Prop) : Prop := ∀ c ∈ L, ¬ S (gnum c) ∧ ¬ S (ad c).block
/-- unlike errors are unlike -/
def EInj (L : List Nat) (ad : Nat → Addr) : Prop := ∀ c ∈ L, ∀ d ∈ L, c ≠ d → ad c ≠ ad d
theorem EOk.chg {L : List Nat} {ad : Nat → Addr} {S : Nat → Prop} {w w1 : World} (h : EOk L ad w) (hn : NoG L ad S) (hc : Chg S w w1) : EOk L ad w1 := fun c hL => by
  obtain ⟨h1, h2, cs, t, h3⟩ := h c hL
  obtain ⟨n1, n2⟩ := hn c hL
  exact ⟨(World.cell?_of_block (w := w) (hc.block _ h2 n1)).trans h1, Nat.lt_of_lt_of_le h2 hc.size, cs, t, (hc.block _ (blk_lt h3) n2).trans h3⟩
theorem EOk.below {L : List Nat} {ad : Nat → Addr} {w w1 : World} (h : EOk L ad w) (hb : Below w.heap.size w w1) : EOk L ad w1 := fun c hL => by
  obtain ⟨h1, h2, cs, t, h3⟩ := h c hL
  exact ⟨(World.cell?_of_block (w := w) (hb.block _ h2)).trans h1, Nat.lt_of_lt_of_le h2 hb.size, cs, t, (hb.block _ (blk_lt h3)).trans h3⟩
theorem EOk.noG {L : List Nat} {ad : Nat → Addr} {w : World} (h : EOk L ad w) (S : Nat → Prop) (hS : ∀ k, S k → w.heap.size ≤ k) : NoG L ad S := fun c hL => by
  obtain ⟨h1, h2, cs, t, h3⟩ := h c hL
  exact ⟨fun hs => by have := hS _ hs; omega, fun hs => by have := hS _ hs; have := blk_lt h3; omega⟩

end Go.Proofs.YtdlacjbicjhfgaaDoor
