/- What the condition 'the package's errors read as they are laid' gives a walk: each error stands in its variable, and unlike ones are unlike. -/
import Derived.Test.YtdlacjbicjhfgaaDoorProg
import Derived.Test.YtdlacjbicjhfgaaDoorErrs
import Derived.Stop.LaidErr
import Derived.LaidMore
import Derived.Stop.Joined
import Derived.KernelRfl
namespace Go.Proofs.YtdlacjbicjhfgaaDoor
open Go.RowKit Go.ChangeShapes Go.Proofs.YtdlacjbicjhfgaaDoorW.PrintWords

theorem laidMet_drop {P : Program} {w : World} : ∀ (l : List (String × DataW Unit)), laidMet P l w → ∀ i, laidMet P (l.drop i) w
  | l, h, 0 => h
  | [], h, _ + 1 => h
  | _ :: l, h, i + 1 => laidMet_drop l h.tail i
theorem laid_full {P : Program} {n nm : String} {text : List UInt8} {r : List (String × DataW Unit)} {W : World} {g : Nat} {ti tp te ts : TypeId} {ms : Array (String × TypeId)} {f : Field}
    (h : laidMet P ((n, .iface nm (.ptr (.agg [.lit (.string text)]))) :: r) W)
    (hg : P.globalNamed n = some g) (ht : (P.globals[g]?).map (·.type) = some ti) (hi : P.underlying ti = some (.interface ms)) (hrow : ∀ u, P.typeName? 3 u = some nm → u = tp)
    (hp : P.underlying tp = some (.pointer te)) (he : P.underlying te = some (.struct #[f])) (hft : f.type = ts) (hfo : f.offset = 0) (hs : P.underlying ts = some .string) (hc : P.cellsOf te = 1) (hcs : P.cellsOf ts = 1) :
    ∃ (a : Addr) (s : ByteArray), (W.cell? ⟨g, 0, none⟩ = some (.iface tp (.pointer (some a))) ∧ g < W.heap.size ∧ ∃ cs t, W.heap[a.block]? = some (.cells cs t (0, 0))) ∧ W.cell? a = some (.string s) ∧ s.data.toList = text := by
  obtain ⟨ps, ⟨g0, t0, cs0, f0, p0, q0, hg0, ht0, hv0, hd0, _, e0⟩, _, hrows⟩ := h
  obtain rfl := Option.some.inj (hg.symm.trans hg0)
  obtain rfl := Option.some.inj (ht.symm.trans ht0)
  subst e0
  obtain ⟨l0⟩ := cs0
  have ok0 : ∀ u v, l0 = [.iface u v] → Value.okWide P W .any 0 u v := fun u v e => by
    subst e
    exact (hrows g 0 (by simp [MemPlace.row])).2 u v (by simpa using World.var?_cell hg0 hv0 0)
  obtain ⟨a0, s0, rfl, hc0, hs0, hz0, rfl⟩ := errorString_of_trod hi hrow hp he hft hfo hs hc hcs hd0 ok0
  have hcell := World.var?_cell hg0 hv0 0
  refine ⟨a0, s0, ⟨by simpa using hcell, World.block_lt_of_cell? W ⟨g, 0, none⟩ (by simpa using hcell), (hrows a0.block a0.off (by simp [MemPlace.row])).1⟩, hc0, hs0⟩
theorem starE : "*" ++ "errors.errorString" = "*errors.errorString" := by decide
theorem rowE (u : TypeId) (h : Tryd.prog.typeName? 3 u = some "*errors.errorString") : u = 77 :=
  typeName_ptr_named (nm := "errors.errorString") (by rw [starE]; kernel_rfl) (by kernel_rfl) (by decide) u (by rw [starE]; exact h)
theorem cellsE : Tryd.prog.cellsOf 93 = 1 := by kernel_rfl
theorem cellsS : Tryd.prog.cellsOf 9 = 1 := by kernel_rfl

end Go.Proofs.YtdlacjbicjhfgaaDoor
