/- Words and small laws on memory that the proofs of this seat share; no function of the program occurs. -/
import Derived.WalkKit
import Derived.Below
import Derived.KernelRfl
import Derived.WalkSpells
import Derived.Lib.Hide
import Derived.Deep.QuietTactic
import Derived.BigQuiet
import Derived.Outline
import Derived.Deep.LoopGhost
import Derived.Laws.Bits64
import Derived.Laws.BitsAllLaws
import Derived.Maps.AppendAt
import Derived.Lib.AppendStr
import Derived.Laws.BytesArg
import Derived.Laws.AppendOwnNone
import Derived.Test.YtdlacjbicjhfgaaDoorWWords
namespace Go.Proofs.YtdlacjbicjhfgaaDoor
open Go.RowKit Go.Proofs.YtdlacjbicjhfgaaDoorW.PrintWords

structure Chg (S : Nat → Prop) (w w' : World) : Prop where
  os : w'.os = w.os
  tape : w'.tape = w.tape
  output : w'.output = w.output
  size : w.heap.size ≤ w'.heap.size
  block : ∀ k, k < w.heap.size → ¬ S k → w'.heap[k]? = w.heap[k]?
theorem Chg.refl (S : Nat → Prop) (w : World) : Chg S w w := ⟨rfl, rfl, rfl, Nat.le_refl _, fun _ _ _ => rfl⟩
theorem Chg.next {S S1 : Nat → Prop} {w w1 w2 : World} (h : Chg S w w1) (h1 : Chg S1 w1 w2) (hs : ∀ k, S1 k → k < w.heap.size → S k) : Chg S w w2 :=
  ⟨h1.os.trans h.os, h1.tape.trans h.tape, h1.output.trans h.output, Nat.le_trans h.size h1.size, fun k hk hn =>
    (h1.block k (Nat.lt_of_lt_of_le hk h.size) (fun h2 => hn (hs k h2 hk))).trans (h.block k hk hn)⟩
theorem Chg.of_below {S : Nat → Prop} {w w1 : World} (h : Below w.heap.size w w1) : Chg S w w1 := ⟨h.os, h.tape, h.output, h.size, fun k hk _ => h.block k hk⟩
theorem Chg.alloc {S : Nat → Prop} {w w1 : World} (h : Chg S w w1) (o : Obj) : Chg S w (w1.alloc o) :=
  h.next (S1 := fun _ => False) ⟨rfl, rfl, rfl, by simp, fun k hk _ => Below.heap_alloc _ _ _ hk⟩ (fun _ h _ => h.elim)
theorem Chg.drew {S : Nat → Prop} {w w1 : World} (h : Chg S w w1) : Chg S w w1.drew := ⟨h.os, h.tape, h.output, h.size, h.block⟩
theorem Chg.drewN {S : Nat → Prop} {w w1 : World} (h : Chg S w w1) (n : Nat) : Chg S w (w1.drewN n) := ⟨h.os, h.tape, h.output, h.size, h.block⟩
theorem Chg.setCell {S : Nat → Prop} {w w1 : World} (h : Chg S w w1) {p : Addr} (hp : p.block < w.heap.size → S p.block) (u : Value) : Chg S w (w1.setCell p u) :=
  h.next (S1 := fun k => k = p.block) ⟨rfl, rfl, rfl, by simp [World.setCell], fun k hk hn => Below.heap_setCell _ _ _ _ hn⟩ (fun k hk h2 => by subst hk; exact hp h2)
theorem Chg.grown {S : Nat → Prop} {w w1 w2 : World} {row : Option Nat} (h : Chg S w w1) (hg : w1.grownBy w2 row) (hr : ∀ k, row = some k → k < w.heap.size → S k) : Chg S w w2 :=
  h.next (S1 := fun k => some k = row) ⟨hg.os, hg.tape, hg.output, hg.size, fun k hk hn => hg.block k hk hn⟩ (fun k hk h2 => hr k hk.symm h2)
theorem Chg.weaken {S S' : Nat → Prop} {w w1 : World} (h : Chg S w w1) (hs : ∀ k, S k → k < w.heap.size → S' k) : Chg S' w w1 :=
  ⟨h.os, h.tape, h.output, h.size, fun k hk hn => h.block k hk (fun h2 => hn (hs k h2 hk))⟩
theorem Chg.below {S : Nat → Prop} {w w1 : World} (h : Chg S w w1) (B : Nat) (hB : B ≤ w.heap.size) (hs : ∀ k, k < B → ¬ S k) : Below B w w1 :=
  ⟨h.os, h.tape, h.output, h.size, fun k hk => h.block k (by omega) (hs k hk)⟩
def Stab (S : Nat → Prop) (w : World) (p : World → Prop) : Prop := ∀ w', Chg S w w' → p w'
theorem Stab.now {S : Nat → Prop} {w : World} {p : World → Prop} (h : Stab S w p) : p w := h w (Chg.refl S w)
theorem Stab.next {S S' : Nat → Prop} {w w1 : World} {p : World → Prop} (h : Stab S w p) (hc : Chg S w w1) (hs : ∀ k, S' k → S k ∨ w.heap.size ≤ k) : Stab S' w1 p :=
  fun w2 h2 => h w2 (hc.next h2 (fun k hk hlt => (hs k hk).resolve_right (by omega)))
theorem C_nat {kd : IntKind} {w : World} {A : Option Addr} {n k : Nat} {l : List Int} (h : Kd.C (Kd.int kd) w A n l) (hk : k < n) : ∃ ad, A = some ad ∧ w.cell? (ad.add k) = some (.int kd (l.getD k 0)) := by
  obtain ⟨ad, e, h⟩ := Kd.at_int h k (by omega) (by omega)
  exact ⟨ad, e, by simpa [rd] using h⟩
structure Drawn (w w' : World) : Prop where mk :: (out : ∃ n, w' = w.drewN n)
theorem Drawn.refl (w : World) : Drawn w w := ⟨⟨0, rfl⟩⟩
theorem Drawn.step {w w' : World} (h : Drawn w w') (n : Nat) : Drawn w (w'.drewN n) := by
  obtain ⟨⟨m, rfl⟩⟩ := h
  exact ⟨⟨m + n, by simp [World.drewN, Nat.add_assoc]⟩⟩
theorem take_eq_iff (xs ys : List Int) (h : xs.length = ys.length) (k : Nat) (hk : k < xs.length) (ht : xs.take k = ys.take k) :
    xs.take (k + 1) = ys.take (k + 1) ↔ xs.getD k 0 = ys.getD k 0 := by
  have hk2 : k < ys.length := h ▸ hk
  rw [List.take_succ_eq_append_getElem hk, List.take_succ_eq_append_getElem hk2, ht]
  simp only [List.append_cancel_left_eq, List.cons.injEq, and_true, List.getD_eq_getElem?_getD, List.getElem?_eq_getElem hk, List.getElem?_eq_getElem hk2, Option.getD_some]
theorem Stab.of_C {α : Type} {d : Kd α} {S : Nat → Prop} {w : World} {A : Option Addr} {n : Nat} {xs : List α} (h : d.C w A n xs) (hS : ∀ k, S k → w.heap.size ≤ k) : Stab S w fun w => d.C w A n xs :=
  fun w' hc => Kd.C_below h (hc.below _ (Nat.le_refl _) (fun k hk hs => by have := hS k hs; omega))
theorem C_own {k : IntKind} {w : World} {base n c : Nat} {e : TypeId} {A : Option Addr} {xs : List Int} (h : w.ownsRow base e 1 (.slice A n c) n (nums k xs)) : Kd.C (Kd.int k) w A xs.length xs := by
  obtain ⟨A', c', he, hr⟩ := own_reads h
  have hn : n = xs.length := by have := h.1; simp [nums_length] at this; omega
  subst hn
  injection he with h1 h2 h3
  subst h1
  exact Kd.C_of_reads (d := 0) (readsInt_of.1 hr)
theorem C_lit {k : IntKind} {w : World} {g : Nat} {t : TypeId} {fr : Nat × Nat} (xs : List Int) (h : w.heap[g]? = some (.cells (nums k xs).toArray t fr)) (hb : xs.length ≤ 9223372036854775807) : Kd.C (Kd.int k) w (some ⟨g, 0, none⟩) xs.length xs := by
  refine ⟨rfl, hb, fun _ => ⟨_, rfl, fun j p hj => ⟨[.int k p], rfl, rfl, fun i u hu => ?_⟩⟩⟩
  have hi : i = 0 := by have := (List.getElem?_eq_some_iff.1 hu).1; simp at this; omega
  subst hi
  rw [show j * (Kd.int k).sz + 0 = j by simp [Kd.int, Kd.scalar], add_plain, cell_of_row w g j _ t fr h]
  simp at hu
  subst hu
  simp [nums, hj]
theorem C_nil {α : Type} (d : Kd α) (w : World) (A : Option Addr) : Kd.C d w A 0 [] := ⟨rfl, by omega, fun h => absurd h (by omega)⟩
theorem Below.new {w w1 w2 : World} {o : Obj} (hb : Below w.heap.size w w1) (h2 : Below (w1.alloc o).heap.size (w1.alloc o) w2) : Below w.heap.size w w2 := by
  have hs := hb.size
  exact (below_alloc hb o).trans (h2.mono (by simp; omega))
theorem wf_range {n : Int} (h : (Lit.int .i64 n).wf = true) : -9223372036854775808 ≤ n ∧ n ≤ 9223372036854775807 := by
  simp [Lit.wf, IntKind.min] at h
  simpa [IntKind.signed, IntKind.bits] using h
/-- w' is w but for the row of v, whose slice is now v', and new blocks. -/
structure Grw (w w' : World) (v v' : Value) : Prop where
  gr : w.grownBy w' v.ownBlock
  at_ : v'.ownBlock = v.ownBlock ∨ ∃ b, v'.ownBlock = some b ∧ w.heap.size ≤ b
theorem Grw.refl (w : World) (v : Value) : Grw w w v v := ⟨⟨rfl, rfl, rfl, Nat.le_refl _, fun _ _ _ => rfl⟩, .inl rfl⟩
theorem Grw.trans {w w1 w2 : World} {v v1 v2 : Value} (h : Grw w w1 v v1) (k : Grw w1 w2 v1 v2) : Grw w w2 v v2 := by
  have hs := h.gr.size
  refine ⟨⟨k.gr.os.trans h.gr.os, k.gr.tape.trans h.gr.tape, k.gr.output.trans h.gr.output, Nat.le_trans hs k.gr.size, fun i hi hne => ?_⟩, ?_⟩
  · refine (k.gr.block i (by omega) ?_).trans (h.gr.block i hi hne)
    rcases h.at_ with e | ⟨b, e, hb⟩
    · rw [e]; exact hne
    · rw [e]; intro he; injection he with he; omega
  · rcases k.at_ with e | ⟨b, e, hb⟩
    · rw [e]; exact h.at_
    · exact .inr ⟨b, e, by omega⟩
theorem Grw.of_alloc {w w1 : World} {o : Obj} {v v1 : Value} (k : Grw (w.alloc o) w1 v v1) : Grw w w1 v v1 :=
  ⟨World.grownBy.trans (World.grownBy_alloc w o _) k.gr, k.at_.imp id (fun ⟨b, e, hb⟩ => ⟨b, e, by simp at hb; omega⟩)⟩
theorem Grw.then_below {w w1 w2 : World} {v v1 : Value} (h : Grw w w1 v v1) (k : Below w1.heap.size w1 w2) : Grw w w2 v v1 := by
  have hs := h.gr.size
  exact ⟨⟨k.os.trans h.gr.os, k.tape.trans h.gr.tape, k.output.trans h.gr.output, Nat.le_trans hs k.size, fun i hi hne => (k.block i (by omega)).trans (h.gr.block i hi hne)⟩, h.at_⟩
theorem Grw.after_below {w w1 w2 : World} {v v1 : Value} (h : Below w.heap.size w w1) (k : Grw w1 w2 v v1) : Grw w w2 v v1 := by
  have hs := h.size
  exact ⟨⟨k.gr.os.trans h.os, k.gr.tape.trans h.tape, k.gr.output.trans h.output, Nat.le_trans hs k.gr.size, fun i hi hne => (k.gr.block i (by omega) hne).trans (h.block i hi)⟩, k.at_.imp id (fun ⟨b, e, hb⟩ => ⟨b, e, by omega⟩)⟩
theorem Grw.below {w w1 : World} {v v1 : Value} (h : Grw w w1 v v1) (B : Nat) (hB : B ≤ w.heap.size) (hv : ∀ k, v.ownBlock = some k → B ≤ k) : Below B w w1 :=
  ⟨h.gr.os, h.gr.tape, h.gr.output, h.gr.size, fun k hk => h.gr.block k (by omega) (fun e => by have := hv k e.symm; omega)⟩
/-- two slices lie in unlike rows -/
def Dis (u v : Value) : Prop := ∀ k, u.ownBlock = some k → v.ownBlock ≠ some k
theorem Grw.other {w w1 : World} {u v v1 : Value} {b n size : Nat} {e : TypeId} {cs : List Value} (h : Grw w w1 v v1) (hd : Dis u v) (ho : w.ownsRow b e size u n cs) : w1.ownsRow b e size u n cs ∧ Dis u v1 := by
  refine ⟨own_move ho (fun k hk => h.gr.block k (own_lt ho k hk) (fun e => hd k hk e.symm)), fun k hk e => ?_⟩
  rcases h.at_ with e1 | ⟨b, e1, hb⟩
  · exact hd k hk (e1 ▸ e)
  · rw [e1] at e; injection e with e; have := own_lt ho k hk; omega
theorem Dis.symm {u v : Value} (h : Dis u v) : Dis v u := fun k hk e => h k e hk
theorem Dis.of_lt {w w1 : World} {b n size n' size' B B' : Nat} {e e' : TypeId} {u v : Value} {cs cs' : List Value} (hu : w.ownsRow B e size u n cs) (hv : w1.ownsRow B' e' size' v n' cs') (h : w.heap.size ≤ B') : Dis u v :=
  fun k hk e => by have := own_lt hu k hk; have := own_base hv k e; omega
theorem Grw.C_other {α : Type} {d : Kd α} {w w1 : World} {v v1 : Value} {A : Option Addr} {n : Nat} {xs : List α} (h : Grw w w1 v v1) (B : Nat) (hB : B ≤ w.heap.size) (hv : ∀ k, v.ownBlock = some k → B ≤ k) {w0 : World} (h0 : w0.heap.size ≤ B) (hb : Below w0.heap.size w0 w) (hc : d.C w0 A n xs) : d.C w1 A n xs :=
  Kd.C_below hc (hb.trans ((h.below B hB hv).mono h0))
theorem S_nat {w : World} {A : Option Addr} {n k : Nat} {l : List ByteArray} (h : Kd.C Kd.string w A n l) (hk : k < n) : ∃ ad, A = some ad ∧ w.cell? (ad.add k) = some (.string (l.getD k ByteArray.empty)) := by
  obtain ⟨ad, e, h⟩ := Kd.at_string h k (by omega) (by omega)
  exact ⟨ad, e, by simpa [rdOf] using h⟩
theorem B_nat {w : World} {A : Option Addr} {n k : Nat} {l : List Bool} (h : Kd.C Kd.bool w A n l) (hk : k < n) : ∃ ad, A = some ad ∧ w.cell? (ad.add k) = some (.bool (l.getD k false)) := by
  obtain ⟨ad, e, h⟩ := Kd.at_bool h k (by omega) (by omega)
  exact ⟨ad, e, by simpa [rdOf] using h⟩
theorem Stab.block {S : Nat → Prop} {w : World} {g : Nat} {o : Obj} (h : w.heap[g]? = some o) (hn : ¬ S g) : Stab S w fun w => w.heap[g]? = some o :=
  fun w' hc => (hc.block g (blk_lt h) hn).trans h
theorem Stab.imp {S : Nat → Prop} {w : World} {p q : World → Prop} (h : Stab S w p) (hi : ∀ w, p w → q w) : Stab S w q := fun w' hc => hi w' (h w' hc)
theorem Stab.lit {S : Nat → Prop} {w : World} {k : IntKind} {t : TypeId} (xs : List Int) (hS : ∀ k, S k → k < w.heap.size) (hb : xs.length ≤ 9223372036854775807) :
    Stab S (w.alloc (.cells (nums k xs).toArray t)) fun w1 => Kd.C (Kd.int k) w1 (some ⟨w.heap.size, 0, none⟩) xs.length xs :=
  (Stab.block (blk_new w _) (fun h => absurd (hS _ h) (by omega))).imp fun w' h => C_lit xs h hb
theorem Stab.own {S : Nat → Prop} {w : World} {b n size : Nat} {e : TypeId} {v : Value} {cs : List Value} (h : w.ownsRow b e size v n cs) (hn : ∀ k, v.ownBlock = some k → ¬ S k) : Stab S w fun w => w.ownsRow b e size v n cs :=
  fun w' hc => own_move h (fun k hk => hc.block k (own_lt h k hk) (hn k hk))
theorem C_of_cells' {k : IntKind} {W : World} {a : Addr} (_ : Nat) (xs : List Int) (hm : xs.length ≤ 9223372036854775807) (hc : ∀ i, i < xs.length → W.cell? (a.add i) = some (.int k (xs.getD i 0))) :
    Kd.C (Kd.int k) W (some a) xs.length xs := by
  refine ⟨rfl, hm, fun _ => ⟨a, rfl, fun j p hj => ⟨[.int k p], rfl, rfl, fun i u hu => ?_⟩⟩⟩
  have hi : i = 0 := by have := (List.getElem?_eq_some_iff.1 hu).1; simp at this; omega
  subst hi
  have hjl : j < xs.length := (List.getElem?_eq_some_iff.1 hj).1
  have e : xs.getD j 0 = p := by simp [List.getD, hj]
  simp at hu
  subst hu
  rw [show j * (Kd.int k).sz + 0 = j by simp [Kd.int, Kd.scalar], hc j hjl, e]
theorem add_add' (a : Addr) (i j : Nat) : (a.add i).add j = a.add (i + j) := by
  unfold Addr.add
  by_cases hi : i = 0 <;> by_cases hj : j = 0 <;> simp_all [Nat.add_assoc]
theorem convert_C {P : Program} {w : World} {A : Option Addr} {xs : List Int} (h : Kd.C (Kd.int .u8) w A xs.length xs) (cap : Nat) (src e dst : TypeId) (hs : P.underlying src = some (.slice e)) (he : P.underlying e = some (.int .u8)) (hd : P.underlying dst = some .string) :
    (convert src dst (.slice A xs.length cap)).run P w = .ok (.string (strOfNums xs)) w := by
  cases A with
  | none =>
    have h0 : xs = [] := by
      cases xs with
      | nil => rfl
      | cons y ys => obtain ⟨ad, e, _⟩ := h.2.2 (by simp); cases e
    subst h0
    exact run_convert_bytes_nil w src e hs he _ _ dst hd
  | some a =>
    have hl : (loadCells a xs.length).run P w = .ok (xs.map (Value.int .u8)).toArray w := by
      have := run_loadCells_list (P := P) w a (xs.map (Value.int .u8)) (fun j v hj => by
        have hjl : j < xs.length := by
          have := (List.getElem?_eq_some_iff.1 hj).1
          simpa using this
        obtain ⟨a', e1, hc⟩ := C_nat h hjl
        injection e1 with e1
        subst e1
        rw [hc]
        simp [List.getElem?_eq_getElem hjl] at hj
        subst hj
        simp [List.getD, List.getElem?_eq_getElem hjl])
      simpa using this
    rw [run_convert_bytes_string w src dst e _ xs.length cap hs he hd, run_bytesToString w _ xs.length cap xs hl, foldl_push_bytes]
    simp [strOfNums, ByteArray.empty, ByteArray.emptyWithCapacity]
    rfl
theorem own_len {w : World} {base n c : Nat} {e : TypeId} {k : IntKind} {A : Option Addr} {xs : List Int} (h : w.ownsRow base e 1 (.slice A n c) n (nums k xs)) : n = xs.length := by
  have := h.1; simp [nums_length] at this; omega

section
variable {P : Program} {W : World} {ops : Array Oper} {rest : List Oper} {o : Oper} {a : Act} {Q : Exit → Act → World → Prop}
/-- append of one cell, from a block just made -/
theorem app_one (hgd : o.guard = none) (s x : Operand) (t e : TypeId) (z : Value) (bytes : Nat)
    (ho : o.op = .call { callee := .builtin .append, args := #[s, x], argTypes := #[t, t] })
    (ht : P.underlying t = some (.slice e)) (hinfo : (P.info? e).map (fun i => (i.zero, i.size, i.bytes)) = some (some z, 1, bytes)) (hz : z.cells.size = 1) (hb0 : 0 < bytes)
    (v : Value) (xs : List Value) (y : Value) (hs : a.eval s = v) (hx : a.eval x = .slice (some ⟨W.heap.size, 0, none⟩) 1 1) (h1 : y.oneCell' = true)
    (HO : W.ownsRow 0 e 1 v xs.length xs) (hl : (xs.length + 1) * bytes ≤ 140737488355328)
    (h : ∀ A1 c1 w1, w1.ownsRow 0 e 1 (.slice A1 (xs.length + 1) c1) (xs.length + 1) (xs ++ [y]) → Grw W w1 v (.slice A1 (xs.length + 1) c1) → wpList P ops Q rest (a.put o.dst (.slice A1 (xs.length + 1) c1)) w1) :
    wpList P ops Q (o :: rest) a (W.alloc (.cells #[y] e)) :=
  print_append (w0 := W) 0 hgd s x t e z bytes ho ht hinfo hz hb0 v xs y hs hx h1 HO ⟨rfl, rfl, rfl, Nat.le_refl _, fun _ _ => rfl⟩ (Nat.zero_le _) hl (fun v1 w1 k1 _ k3 k4 => by
    rw [show (xs ++ [y]).length = xs.length + 1 by simp] at k1
    obtain ⟨A1, c1, rfl⟩ := own_slice k1
    exact h A1 c1 w1 k1 ⟨k3, k4⟩)

theorem own_news {w : World} {A : Option Addr} {k : IntKind} {ys : List Int} {ad : Addr} (hA : A = some ad) (h : Kd.C (Kd.int k) w A ys.length ys) : ∀ j u, (nums k ys)[j]? = some u → w.cell? (ad.add j) = some u := by
  intro j u hj
  have hjn : j < ys.length := by
    have := (List.getElem?_eq_some_iff.1 hj).1
    simpa [nums_length] using this
  obtain ⟨a', ha, hc⟩ := C_nat h hjn
  rw [hA] at ha
  injection ha with ha
  subst ha
  rw [hc]
  have e : (nums k ys)[j]? = some (Value.int k (ys.getD j 0)) := by simp [nums, List.getD, List.getElem?_eq_getElem hjn]
  rw [e] at hj
  exact hj
theorem C_none {α : Type} {d : Kd α} {w : World} {n : Nat} {ys : List α} (h : d.C w none n ys) : ys = [] := by
  cases ys with
  | nil => rfl
  | cons y ys =>
    have h1 := h.1
    obtain ⟨ad, e, _⟩ := h.2.2 (by simp at h1; omega)
    cases e
/-- append of numbers that a slice reads as (nil, too) -/
theorem app_sl (hgd : o.guard = none) (s x : Operand) (t e : TypeId) (k : IntKind) (z : Value) (bytes : Nat)
    (ho : o.op = .call { callee := .builtin .append, args := #[s, x], argTypes := #[t, t] })
    (ht : P.underlying t = some (.slice e)) (hinfo : (P.info? e).map (fun i => (i.zero, i.size, i.bytes)) = some (some z, 1, bytes)) (hz : z.cells.size = 1) (hb0 : 0 < bytes)
    (v : Value) (n : Nat) (xs : List Value) (B : Option Addr) (d : Nat) (ys : List Int) (hs : a.eval s = v) (hx : a.eval x = .slice B ys.length d) (hnd : B = none → d = 0)
    (HO : W.ownsRow 0 e 1 v n xs) (hC : Kd.C (Kd.int k) W B ys.length ys) (hl : (n + ys.length) * bytes ≤ 140737488355328)
    (h : ∀ A1 c1 w1, w1.ownsRow 0 e 1 (.slice A1 (n + ys.length) c1) (n + ys.length) (xs ++ nums k ys) → Grw W w1 v (.slice A1 (n + ys.length) c1) → wpList P ops Q rest (a.put o.dst (.slice A1 (n + ys.length) c1)) w1) :
    wpList P ops Q (o :: rest) a W := by
  obtain ⟨i0, hi, hzz⟩ := Option.map_eq_some_iff.1 hinfo
  simp only [Prod.mk.injEq] at hzz
  obtain ⟨hz0, hz1, hz2⟩ := hzz
  have hlen : n + ys.length ≤ 140737488355328 := Nat.le_trans (Nat.le_mul_of_pos_right _ hb0) hl
  cases B with
  | none =>
    have h0 := C_none hC
    subst h0
    obtain ⟨A1, c1, rfl⟩ := own_slice HO
    obtain rfl := hnd rfl
    refine wpList_append_own_none hgd s x t ho 0 e i0 1 ht hi _ n xs hs HO hx ?_
    have := h A1 c1 W (by simpa [nums] using HO) (Grw.refl _ _)
    simpa using this
  | some ad =>
    refine wpList_append_own_at W hgd s x t ho 0 e i0 z 1 bytes ht hi hz0 hz1 hz2 hz (by omega) v n xs hs HO ad ys.length d (nums k ys) hx (by simp [nums_length]) (own_news rfl hC)
      (by intro u hu; obtain ⟨x, _, rfl⟩ := List.mem_map.1 hu; rfl) (by simp only [maxLen]; omega) hl (Nat.zero_le _) ?_
    intro v1 w1 hown hg _ hat
    obtain ⟨A1, c1, rfl⟩ := own_slice hown
    exact h A1 c1 w1 hown ⟨hg, hat.imp id (fun e => ⟨_, e, Nat.le_refl _⟩)⟩
theorem str_nums (s : ByteArray) : Lib.strCells s = nums .u8 (bytesOf s) := by
  unfold Lib.strCells nums bytesOf
  rw [List.map_map]
  rfl
theorem run_app_str (t u ty e : TypeId) (i : TypeInfo) (ht : P.underlying t = some (.slice e)) (hu : P.underlying u = some .string) (hi : P.info? e = some i) (hz : i.zero = some (.int .u8 0))
    (hsize : i.size = 1) (hby : i.bytes = 1) (v : Value) (n : Nat) (xs : List Value) (hown : W.ownsRow 0 e 1 v n xs) (s : ByteArray) (hb : n + s.size ≤ 140737488355328) :
    ∃ A1 c1 w', (Builtin.append_ #[t, u] ty #[v, .string s]).run P W = .ok (.slice A1 (n + s.size) c1) w' ∧ w'.ownsRow 0 e 1 (.slice A1 (n + s.size) c1) (n + s.size) (xs ++ nums .u8 (bytesOf s)) ∧ Grw W w' v (.slice A1 (n + s.size) c1) := by
  have hm : n + s.size ≤ maxLen := by simp only [maxLen]; omega
  obtain ⟨v', w', hr, ho, hg, _⟩ := Lib.run_append_own_string (P := P) W 0 t u ty e i ht hu hi hz hsize hby v n xs hown s hm hb (Nat.zero_le _)
  rw [str_nums] at ho
  obtain ⟨A1, c1, rfl⟩ := own_slice ho
  refine ⟨A1, c1, w', hr, ho, hg, ?_⟩
  have hown' := hown
  have hxl : xs.length = n := by simpa using hown.1
  rcases hown.2 with ⟨rfl, rfl⟩ | ⟨g, cap, cur, rfl, hbg, hcur, hnc, hcm, hcs, htake⟩
  · obtain rfl : xs = [] := List.eq_nil_of_length_eq_zero hxl
    obtain ⟨v2, w2, hr2, ho2, _, _⟩ := Lib.run_append_own_string (P := P) W W.heap.size t u ty e i ht hu hi hz hsize hby (.slice none 0 0) 0 [] (World.ownsRow_nil _ _ _ _) s hm hb (Nat.le_refl _)
    rw [hr] at hr2
    injection hr2 with h1 h2
    subst h1 h2
    cases hA : (Value.slice A1 (0 + s.size) c1).ownBlock with
    | none => exact .inl rfl
    | some b => exact .inr ⟨b, rfl, own_base ho2 b hA⟩
  · by_cases hroom : n + s.size ≤ cap
    · have hcs' : cur.size = cap := by simpa using hcs
      have hr2 := Lib.run_append_room_string (P := P) W t u ty e i ht hu hi hsize g n cap cur hcur s hroom (by omega)
      rw [hr] at hr2
      injection hr2 with h1 h2
      rw [h1]
      exact .inl rfl
    · have hr2 := Lib.run_append_grow_string (P := P) W t u ty e i (.int .u8 0) ht hu hi hz ⟨g, 0, none⟩ n cap xs (by rw [hsize]; simpa using hxl) (hown.cells (g := g) rfl) s (by omega) (by omega) (by rw [hby]; exact growslice_fits (by omega) (by omega))
      rw [hr] at hr2
      injection hr2 with h1 h2
      rw [h1]
      exact .inr ⟨_, rfl, Nat.le_refl _⟩
/-- append of a text's bytes -/
theorem app_str (hgd : o.guard = none) (sl x : Operand) (t u e : TypeId)
    (ho : o.op = .call { callee := .builtin .append, args := #[sl, x], argTypes := #[t, u] })
    (ht : P.underlying t = some (.slice e)) (hu : P.underlying u = some .string) (hinfo : (P.info? e).map (fun i => (i.zero, i.size, i.bytes)) = some (some (.int .u8 0), 1, 1))
    (v : Value) (n : Nat) (xs : List Value) (s : ByteArray) (hs : a.eval sl = v) (hx : a.eval x = .string s)
    (HO : W.ownsRow 0 e 1 v n xs) (hl : n + s.size ≤ 140737488355328)
    (h : ∀ A1 c1 w1, w1.ownsRow 0 e 1 (.slice A1 (n + s.size) c1) (n + s.size) (xs ++ nums .u8 (bytesOf s)) → Grw W w1 v (.slice A1 (n + s.size) c1) → wpList P ops Q rest (a.put o.dst (.slice A1 (n + s.size) c1)) w1) :
    wpList P ops Q (o :: rest) a W := by
  obtain ⟨i0, hi, hzz⟩ := Option.map_eq_some_iff.1 hinfo
  simp only [Prod.mk.injEq] at hzz
  obtain ⟨hz0, hz1, hz2⟩ := hzz
  refine wpList_plain hgd fun K hK => ?_
  obtain ⟨A1, c1, w', hr, h2, h3⟩ := run_app_str (P := P) (W := W) t u o.type e i0 ht hu hi hz0 hz1 hz2 v n xs HO s hl
  unfold Oper.wp execOp
  simp only [ho, resolve, invoke, builtin, Sem.run_bind, Sem.run_pure, Result.andThen_ok, List.map_toArray, List.map_cons, List.map_nil, hs, hx, hr]
  exact hK _ _ (h A1 c1 w' h2 h3)
end

end Go.Proofs.YtdlacjbicjhfgaaDoor
