/- More words: slices of one element just made. -/
import Derived.Test.YtdlacjbicjhfgaaDoorBase
namespace Go.Proofs.YtdlacjbicjhfgaaDoor
open Go.RowKit Go.Proofs.YtdlacjbicjhfgaaDoorW.PrintWords

theorem Chg.cell {S : Nat → Prop} {w w' : World} (h : Chg S w w') {p : Addr} {v : Value} (hc : w.cell? p = some v) (hn : ¬ S p.block) : w'.cell? p = some v :=
  (World.cell?_of_block (w := w) (h.block p.block (World.block_lt_of_cell? w p hc) hn)).trans hc
theorem Chg.undrew {S : Nat → Prop} {w w' : World} (h : Chg S w.drew w') : Chg S w w' := ⟨h.os, h.tape, h.output, h.size, h.block⟩
theorem wf_byte {n : Int} (h : (Lit.int .u8 n).wf = true) : 0 ≤ n ∧ n < 256 := by
  simp [Lit.wf, IntKind.min, IntKind.max, IntKind.signed, IntKind.bits] at h
  omega
theorem C_litOf {α : Type} {enc : α → Value} {h1 : ∀ x, (enc x).oneCell' = true} {w : World} {g : Nat} {t : TypeId} {fr : Nat × Nat} (xs : List α) (h : w.heap[g]? = some (.cells (xs.map enc).toArray t fr)) (hb : xs.length ≤ 9223372036854775807) :
    Kd.C (Kd.scalar enc h1) w (some ⟨g, 0, none⟩) xs.length xs := by
  refine ⟨rfl, hb, fun _ => ⟨_, rfl, fun j p hj => ⟨[enc p], rfl, rfl, fun i u hu => ?_⟩⟩⟩
  have hi : i = 0 := by have := (List.getElem?_eq_some_iff.1 hu).1; simp at this; omega
  subst hi
  rw [show j * (Kd.scalar enc h1).sz + 0 = j by simp [Kd.scalar], add_plain, cell_of_row w g j _ t fr h]
  simp at hu
  subst hu
  simp [hj]
theorem C_strs {w : World} (t : TypeId) (xs : List ByteArray) (hb : xs.length ≤ 9223372036854775807) : Kd.C Kd.string (w.alloc (.cells (xs.map Value.string).toArray t)) (some ⟨w.heap.size, 0, none⟩) xs.length xs := C_litOf xs (blk_new w _) hb
theorem C_bools {w : World} (t : TypeId) (xs : List Bool) (hb : xs.length ≤ 9223372036854775807) : Kd.C Kd.bool (w.alloc (.cells (xs.map Value.bool).toArray t)) (some ⟨w.heap.size, 0, none⟩) xs.length xs := C_litOf xs (blk_new w _) hb
theorem C_ints {w : World} (k : IntKind) (t : TypeId) (xs : List Int) (hb : xs.length ≤ 9223372036854775807) : Kd.C (Kd.int k) (w.alloc (.cells (xs.map (Value.int k)).toArray t)) (some ⟨w.heap.size, 0, none⟩) xs.length xs := C_litOf xs (blk_new w _) hb

theorem str_eqb (s t : ByteArray) : (s.toList == t.toList) = decide (s = t) := by
  by_cases h : s = t
  · subst h; simp
  · have : s.toList ≠ t.toList := fun e => h (by rw [ByteArray.toList_eq, ByteArray.toList_eq] at e; exact ByteArray.ext (Array.toList_inj.1 e))
    rw [decide_eq_false h]
    simpa using this
/-- a row just made, of numbers -/
theorem own_lit {k : IntKind} {w : World} {g : Nat} {e : TypeId} (xs : List Int) (h : w.heap[g]? = some (.cells (nums k xs).toArray e (0, 0))) (hb : xs.length ≤ maxLen) : w.ownsRow 0 e 1 (.slice (some ⟨g, 0, none⟩) xs.length xs.length) xs.length (nums k xs) :=
  ⟨by simp [nums_length], .inr ⟨g, xs.length, (nums k xs).toArray, rfl, Nat.zero_le _, h, Nat.le_refl _, hb, by simp [nums_length], by rw [show xs.length * 1 = (nums k xs).length by simp [nums_length]]; simp⟩⟩

theorem own_nd {w : World} {base n c size : Nat} {e : TypeId} {A : Option Addr} {xs : List Value} (h : w.ownsRow base e size (.slice A n c) n xs) : A = none → c = 0 := by
  intro hA
  subst hA
  rcases h.2 with ⟨h, _⟩ | ⟨g, cap, cur, he, _⟩
  · injection h
  · injection he with h1; cases h1
theorem own_below {w w1 : World} {base n size : Nat} {e : TypeId} {v : Value} {xs : List Value} (h : w.ownsRow base e size v n xs) (hb : Below w.heap.size w w1) : w1.ownsRow base e size v n xs :=
  own_move h (fun k hk => hb.block k (own_lt h k hk))
theorem own_up {w : World} {base n c size : Nat} {e : TypeId} {A : Option Addr} {xs : List Value} (B : Nat) (h : w.ownsRow base e size (.slice A n c) n xs) (hB : ∀ k, (Value.slice A n c).ownBlock = some k → B ≤ k) : w.ownsRow B e size (.slice A n c) n xs := by
  refine ⟨h.1, ?_⟩
  rcases h.2 with h | ⟨g, cap, cur, he, _, hr⟩
  · exact .inl h
  · exact .inr ⟨g, cap, cur, he, hB g (by rw [he]; rfl), hr⟩

theorem below_drewN {B : Nat} {w w1 : World} (h : Below B w w1) (n : Nat) : Below B w (w1.drewN n) := ⟨h.os, h.tape, h.output, h.size, h.block⟩

theorem Drawn.below {B : Nat} {w w1 w2 : World} (h : Below B w w1) (hd : Drawn w1 w2) : Below B w w2 := by
  obtain ⟨⟨n, rfl⟩⟩ := hd
  exact below_drewN h n

theorem sizeA (w : World) (o : Obj) : (w.alloc o).heap.size = w.heap.size + 1 := by simp

theorem own_some {w : World} {base n c size : Nat} {e : TypeId} {A : Option Addr} {xs : List Value} (h : w.ownsRow base e size (.slice A n c) n xs) (hn : 0 < n) : ∃ g, A = some ⟨g, 0, none⟩ := by
  rcases h.2 with ⟨h, _⟩ | ⟨g, cap, cur, he, _⟩
  · injection h with _ h2; omega
  · injection he with h1; exact ⟨g, h1⟩
theorem pow8_cast (n : Nat) : ((2 : Int) ^ (n % 8) % 256) = ((2 ^ (n % 8) : Nat) : Int) := by
  have h : 2 ^ (n % 8) < 2 ^ 8 := Nat.pow_lt_pow_right (by omega) (by omega)
  have e : ((2 : Int) ^ (n % 8)) = ((2 ^ (n % 8) : Nat) : Int) := by rw [Int.natCast_pow]; rfl
  rw [e, show (256 : Int) = ((256 : Nat) : Int) from rfl, ← Int.natCast_emod, Nat.mod_eq_of_lt (by omega)]
theorem nums_set (k : IntKind) (X : List Int) (i : Nat) (v : Int) : nums k (X.set i v) = (nums k X).set i (.int k v) := by simp [nums, List.map_set]

end Go.Proofs.YtdlacjbicjhfgaaDoor
