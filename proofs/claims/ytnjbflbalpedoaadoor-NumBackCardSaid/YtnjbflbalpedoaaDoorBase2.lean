/- More words: slices of one element just made. -/
import Derived.Test.YtnjbflbalpedoaaDoorBase
namespace Go.Proofs.YtnjbflbalpedoaaDoor
open Go.RowKit Go.Proofs.YtnjbflbalpedoaaDoorW.PrintWords

theorem Chg.cell {S : Nat → Prop} {w w' : World} (h : Chg S w w') {p : Addr} {v : Value} (hc : w.cell? p = some v) (hn : ¬ S p.block) : w'.cell? p = some v :=
  (World.cell?_of_block (w := w) (h.block p.block (World.block_lt_of_cell? w p hc) hn)).trans hc
theorem Chg.undrew {S : Nat → Prop} {w w' : World} (h : Chg S w.drew w') : Chg S w w' := ⟨h.os, h.tape, h.output, h.size, h.block⟩
theorem wf_byte {n : Int} (h : (Lit.int .u8 n).wf = true) : 0 ≤ n ∧ n < 256 := by
  simp [Lit.wf, IntKind.min, IntKind.max, IntKind.signed, IntKind.bits] at h
  omega
theorem C_litOf {α : Type} {enc : α → Value} {h1 : ∀ x, (enc x).oneCell' = true} {w : World} {g : Nat} {t : TypeId} {fr : Nat × Nat} (xs : List α) (h : w.heap[g]? = some (.cells (xs.map enc).toArray t fr)) (hb : xs.length ≤ 9223372036854775807) :
    Kd.C (Kd.scalar enc h1) w (some ⟨g, 0, none⟩) xs.length xs := by
  refine ⟨rfl, hb, fun _ => ⟨_, rfl, fun j p hj => ⟨[enc p], rfl, rfl, fun i u hu => ?_⟩⟩⟩
  have hi : i = 0 := by have := (List.getElem?_eq_some_iff.1 hu).1; simp at this; omega
  subst hi
  rw [show j * (Kd.scalar enc h1).sz + 0 = j by simp [Kd.scalar], add_plain, cell_of_row w g j _ t fr h]
  simp at hu
  subst hu
  simp [hj]
theorem C_strs {w : World} (t : TypeId) (xs : List ByteArray) (hb : xs.length ≤ 9223372036854775807) : Kd.C Kd.string (w.alloc (.cells (xs.map Value.string).toArray t)) (some ⟨w.heap.size, 0, none⟩) xs.length xs := C_litOf xs (blk_new w _) hb
theorem C_bools {w : World} (t : TypeId) (xs : List Bool) (hb : xs.length ≤ 9223372036854775807) : Kd.C Kd.bool (w.alloc (.cells (xs.map Value.bool).toArray t)) (some ⟨w.heap.size, 0, none⟩) xs.length xs := C_litOf xs (blk_new w _) hb
theorem C_ints {w : World} (k : IntKind) (t : TypeId) (xs : List Int) (hb : xs.length ≤ 9223372036854775807) : Kd.C (Kd.int k) (w.alloc (.cells (xs.map (Value.int k)).toArray t)) (some ⟨w.heap.size, 0, none⟩) xs.length xs := C_litOf xs (blk_new w _) hb

end Go.Proofs.YtnjbflbalpedoaaDoor
