/- Contracts of functions that the statement reaches: for every input in the stated bounds the Go function returns what is written, and memory that was there stays. -/
import Derived.Test.YtnjbflbalpedoaaProg
import Derived.WalkKit
import Derived.Below
import Derived.KernelRfl
import Derived.WalkSpells
import Derived.Lib.Hide
import Derived.Deep.QuietTactic
import Derived.BigQuiet
import Derived.Outline
import Derived.Deep.LoopGhost
import Derived.Laws.Bits64
import Derived.Laws.BitsAllLaws
import Derived.Maps.AppendAt
import Derived.Lib.AppendStr
import Derived.Laws.AppendOwnNone
import Derived.Test.YtnjbflbalpedoaaWWords
namespace Go.Proofs.Ytnjbflbalpedoaa
open Go.RowKit Go.Proofs.YtnjbflbalpedoaaW.PrintWords

theorem info5 : (Try.prog.info? 5).map (fun i => (i.zero, i.size, i.bytes)) = some (some (.int .u8 0), 1, 1) := by kernel_rfl

/-! base -/
structure Chg (S : Nat → Prop) (w w' : World) : Prop where
  os : w'.os = w.os
  tape : w'.tape = w.tape
  output : w'.output = w.output
  size : w.heap.size ≤ w'.heap.size
  block : ∀ k, k < w.heap.size → ¬ S k → w'.heap[k]? = w.heap[k]?
theorem Chg.refl (S : Nat → Prop) (w : World) : Chg S w w := ⟨rfl, rfl, rfl, Nat.le_refl _, fun _ _ _ => rfl⟩
theorem Chg.next {S S1 : Nat → Prop} {w w1 w2 : World} (h : Chg S w w1) (h1 : Chg S1 w1 w2) (hs : ∀ k, S1 k → k < w.heap.size → S k) : Chg S w w2 :=
  ⟨h1.os.trans h.os, h1.tape.trans h.tape, h1.output.trans h.output, Nat.le_trans h.size h1.size, fun k hk hn =>
    (h1.block k (Nat.lt_of_lt_of_le hk h.size) (fun h2 => hn (hs k h2 hk))).trans (h.block k hk hn)⟩
theorem Chg.of_below {S : Nat → Prop} {w w1 : World} (h : Below w.heap.size w w1) : Chg S w w1 := ⟨h.os, h.tape, h.output, h.size, fun k hk _ => h.block k hk⟩
theorem Chg.alloc {S : Nat → Prop} {w w1 : World} (h : Chg S w w1) (o : Obj) : Chg S w (w1.alloc o) :=
  h.next (S1 := fun _ => False) ⟨rfl, rfl, rfl, by simp, fun k hk _ => Below.heap_alloc _ _ _ hk⟩ (fun _ h _ => h.elim)
theorem Chg.drew {S : Nat → Prop} {w w1 : World} (h : Chg S w w1) : Chg S w w1.drew := ⟨h.os, h.tape, h.output, h.size, h.block⟩
theorem Chg.drewN {S : Nat → Prop} {w w1 : World} (h : Chg S w w1) (n : Nat) : Chg S w (w1.drewN n) := ⟨h.os, h.tape, h.output, h.size, h.block⟩
theorem Chg.setCell {S : Nat → Prop} {w w1 : World} (h : Chg S w w1) {p : Addr} (hp : p.block < w.heap.size → S p.block) (u : Value) : Chg S w (w1.setCell p u) :=
  h.next (S1 := fun k => k = p.block) ⟨rfl, rfl, rfl, by simp [World.setCell], fun k hk hn => Below.heap_setCell _ _ _ _ hn⟩ (fun k hk h2 => by subst hk; exact hp h2)
theorem Chg.grown {S : Nat → Prop} {w w1 w2 : World} {row : Option Nat} (h : Chg S w w1) (hg : w1.grownBy w2 row) (hr : ∀ k, row = some k → k < w.heap.size → S k) : Chg S w w2 :=
  h.next (S1 := fun k => some k = row) ⟨hg.os, hg.tape, hg.output, hg.size, fun k hk hn => hg.block k hk hn⟩ (fun k hk h2 => hr k hk.symm h2)
theorem Chg.weaken {S S' : Nat → Prop} {w w1 : World} (h : Chg S w w1) (hs : ∀ k, S k → k < w.heap.size → S' k) : Chg S' w w1 :=
  ⟨h.os, h.tape, h.output, h.size, fun k hk hn => h.block k hk (fun h2 => hn (hs k h2 hk))⟩
theorem Chg.below {S : Nat → Prop} {w w1 : World} (h : Chg S w w1) (B : Nat) (hB : B ≤ w.heap.size) (hs : ∀ k, k < B → ¬ S k) : Below B w w1 :=
  ⟨h.os, h.tape, h.output, h.size, fun k hk => h.block k (by omega) (hs k hk)⟩

/-! numbers -/
def zz (n : Int) : Int := if 0 ≤ n then 2 * n else -2 * n - 1
theorem zz_range (n : Int) (h0 : -9223372036854775808 ≤ n) (h1 : n ≤ 9223372036854775807) : 0 ≤ zz n ∧ zz n ≤ 18446744073709551615 := by
  unfold zz; split <;> omega
theorem xor_ones (x : Nat) (hx : x < 18446744073709551616) : x ^^^ 18446744073709551615 = 18446744073709551615 - x := by
  have h := congrArg BitVec.toNat (BitVec.xor_allOnes (x := BitVec.ofNat 64 x))
  simpa [BitVec.toNat_xor, BitVec.toNat_not, Nat.mod_eq_of_lt hx] using h
theorem zz_eq (n : Int) (h0 : -9223372036854775808 ≤ n) (h1 : n ≤ 9223372036854775807) :
    bits .xor .u64 (IntKind.u64.wrap (IntKind.u64.wrap n * 2)) (IntKind.u64.wrap (n / 9223372036854775808)) = zz n := by
  simp only [IntKind.wrap_u64]
  by_cases h : 0 ≤ n
  · obtain ⟨a, ha⟩ : ∃ a : Nat, n % 18446744073709551616 * 2 % 18446744073709551616 = (a : Int) := ⟨_, (Int.toNat_of_nonneg (by omega)).symm⟩
    have hb : n / 9223372036854775808 % 18446744073709551616 = ((0 : Nat) : Int) := by omega
    rw [ha, hb, bits_xor_u64_nat _ _ (by omega) (by omega), Nat.xor_zero, ← ha]
    unfold zz; rw [if_pos h]; omega
  · obtain ⟨a, ha⟩ : ∃ a : Nat, n % 18446744073709551616 * 2 % 18446744073709551616 = (a : Int) := ⟨_, (Int.toNat_of_nonneg (by omega)).symm⟩
    have hb : n / 9223372036854775808 % 18446744073709551616 = ((18446744073709551615 : Nat) : Int) := by omega
    rw [ha, hb, bits_xor_u64_nat _ _ (by omega) (by omega), xor_ones a (by omega)]
    unfold zz; rw [if_neg h]; omega

set_option maxHeartbeats 400000 in
theorem turned_any (n : Int) (w : World) (h0 : -9223372036854775808 ≤ n) (h1 : n ≤ 9223372036854775807) :
    Calls Try.prog 20 #[.int .i64 n] w fun e w' => e = .returned (.int .u64 (zz n)) ∧ w = w' := by
  have hz := Lib.hid (zz_eq n h0 h1)
  go_enter Try.func20, Try.ntmps20
  go_wp2
  go_ret
  exact ⟨congrArg (fun x => Ending.returned (.int .u64 x)) hz.out, rfl⟩

def encU (u : Nat) : List Int := if h : 127 < u then ((u % 128 + 128 : Nat) : Int) :: encU (u / 128) else [(u : Int)]
termination_by u
theorem encU_big (u : Nat) (h : 127 < u) : encU u = ((u % 128 + 128 : Nat) : Int) :: encU (u / 128) := by rw [encU, dif_pos h]
theorem encU_small (u : Nat) (h : ¬ 127 < u) : encU u = [(u : Int)] := by rw [encU, dif_neg h]
def enc (l : List Int) : List Int := l.flatMap fun n => encU (zz n).toNat

def WrAt (w : World) (S : Nat → Prop) (g : Nat) (xs : List Int) : Prop :=
  ∃ A c, S g ∧ (∀ k, (Value.slice A xs.length c).ownBlock = some k → S k) ∧ (∀ k, S k → k < w.heap.size) ∧ w.heap[g]? = some (.cells #[.slice A xs.length c] 46 (0, 0)) ∧ w.ownsRow 0 5 1 (.slice A xs.length c) xs.length (nums .u8 xs)


section
variable {P : Program} {W : World} {ops : Array Oper} {rest : List Oper} {o : Oper} {a : Act} {Q : Exit → Act → World → Prop}
/-- append of one cell, from a block just made -/
theorem app_one (hgd : o.guard = none) (s x : Operand) (t e : TypeId) (z : Value) (bytes : Nat)
    (ho : o.op = .call { callee := .builtin .append, args := #[s, x], argTypes := #[t, t] })
    (ht : P.underlying t = some (.slice e)) (hinfo : (P.info? e).map (fun i => (i.zero, i.size, i.bytes)) = some (some z, 1, bytes)) (hz : z.cells.size = 1) (hb0 : 0 < bytes)
    (v : Value) (xs : List Value) (y : Value) (hs : a.eval s = v) (hx : a.eval x = .slice (some ⟨W.heap.size, 0, none⟩) 1 1) (h1 : y.oneCell' = true)
    (HO : W.ownsRow 0 e 1 v xs.length xs) (hl : (xs.length + 1) * bytes ≤ 140737488355328)
    (h : ∀ A1 c1 w1, w1.ownsRow 0 e 1 (.slice A1 (xs.length + 1) c1) (xs.length + 1) (xs ++ [y]) → W.grownBy w1 v.ownBlock → ((Value.slice A1 (xs.length + 1) c1).ownBlock = v.ownBlock ∨ ∃ b, (Value.slice A1 (xs.length + 1) c1).ownBlock = some b ∧ W.heap.size ≤ b) → wpList P ops Q rest (a.put o.dst (.slice A1 (xs.length + 1) c1)) w1) :
    wpList P ops Q (o :: rest) a (W.alloc (.cells #[y] e)) :=
  print_append (w0 := W) 0 hgd s x t e z bytes ho ht hinfo hz hb0 v xs y hs hx h1 HO ⟨rfl, rfl, rfl, Nat.le_refl _, fun _ _ => rfl⟩ (Nat.zero_le _) hl (fun v1 w1 k1 _ k3 k4 => by
    rw [show (xs ++ [y]).length = xs.length + 1 by simp] at k1
    obtain ⟨A1, c1, rfl⟩ := own_slice k1
    exact h A1 c1 w1 k1 k3 k4)
end

theorem WrAt.push {w w1 : World} {S : Nat → Prop} {g n : Nat} {xs ys : List Int} {v : Value} {A1 : Option Addr} {c1 : Nat}
    (hg : S g) (hv : ∀ k, v.ownBlock = some k → S k) (hS : ∀ k, S k → k < w.heap.size) (hh : w.heap[g]? = some (.cells #[v] 46 (0, 0)))
    (ho0 : w.ownsRow 0 5 1 v xs.length (nums .u8 xs))
    (ho : w1.ownsRow 0 5 1 (.slice A1 n c1) n (nums .u8 xs ++ nums .u8 ys)) (hgr : w.grownBy w1 v.ownBlock)
    (hat : (Value.slice A1 n c1).ownBlock = v.ownBlock ∨ ∃ b, (Value.slice A1 n c1).ownBlock = some b ∧ w.heap.size ≤ b) :
    WrAt (w1.setCell ⟨g, 0, none⟩ (.slice A1 n c1)) (fun k => S k ∨ (w.heap.size ≤ k ∧ k < w1.heap.size)) g (xs ++ ys) ∧ Chg S w (w1.setCell ⟨g, 0, none⟩ (.slice A1 n c1)) := by
  have hne : some g ≠ v.ownBlock := own_ne ho0 hh (by decide)
  have hg1 : w1.heap[g]? = some (.cells #[v] 46 (0, 0)) := blk_grown hh hgr hne
  have hgl := blk_lt hh
  have hn : n = (xs ++ ys).length := by have := ho.1; simp [nums_length] at this; simp; omega
  subst hn
  rw [← nums_append] at ho
  refine ⟨⟨A1, c1, .inl hg, ?_, ?_, ?_, ?_⟩, ?_⟩
  · intro k hk
    rcases hat with hat | ⟨b, hb, hle⟩
    · exact .inl (hv k (hat ▸ hk))
    · rw [hb] at hk; injection hk with hk; subst hk
      have := own_lt ho b hb
      exact .inr ⟨hle, this⟩
  · intro k hk
    have : (w1.setCell ⟨g, 0, none⟩ (.slice A1 (xs ++ ys).length c1)).heap.size = w1.heap.size := by simp [World.setCell]
    rw [this]
    rcases hk with hk | hk
    · exact Nat.lt_of_lt_of_le (hS k hk) hgr.size
    · exact hk.2
  · simpa using blk_set hg1 0 _
  · exact own_setCell (p := ⟨g, 0, none⟩) ho (own_ne ho hg1 (by decide)) _
  · exact ((Chg.refl S w).grown hgr (fun k hk _ => hv k hk)).setCell (fun _ => hg) _

theorem encU_len (n : Nat) : ∀ u, u < 128 ^ (n + 1) → (encU u).length ≤ n + 1 := by
  induction n with
  | zero => intro u h; rw [encU_small u (by omega)]; simp
  | succ n ih =>
    intro u h
    by_cases hb : 127 < u
    · rw [encU_big u hb]
      have := ih (u / 128) (by rw [Nat.pow_succ] at h; omega)
      simp; omega
    · rw [encU_small u hb]; simp
theorem encU_len10 (u : Nat) (h : u < 18446744073709551616) : (encU u).length ≤ 10 := encU_len 9 u (by omega)
theorem enc_len (l : List Int) (hr : ∀ n ∈ l, -9223372036854775808 ≤ n ∧ n ≤ 9223372036854775807) : (enc l).length ≤ 10 * l.length := by
  induction l with
  | nil => simp [enc]
  | cons n l ih =>
    have h1 := ih (fun m hm => hr m (List.mem_cons_of_mem _ hm))
    have h2 := hr n (List.mem_cons_self ..)
    have h3 := zz_range n h2.1 h2.2
    have h4 := encU_len10 (zz n).toNat (by omega)
    simp only [enc, List.flatMap_cons, List.length_append, List.length_cons] at *
    omega

theorem or128_all : ∀ a : Fin 256, a.val ||| 128 = a.val % 128 + 128 := by decide +kernel
theorem or128 (u : Nat) : bits .or .u8 ((u : Int) % 256) 128 = ((u % 128 + 128 : Nat) : Int) := by
  have h := or128_all ⟨u % 256, Nat.mod_lt _ (by omega)⟩
  have h2 := u8_or_nat (u % 256) 128 (Nat.mod_lt _ (by omega)) (by omega)
  rw [show ((u : Int) % 256) = ((u % 256 : Nat) : Int) from by omega]
  simp only at h
  rw [show (128 : Int) = ((128 : Nat) : Int) from rfl, h2, h]
  omega

def Stab (S : Nat → Prop) (w : World) (p : World → Prop) : Prop := ∀ w', Chg S w w' → p w'
theorem Stab.now {S : Nat → Prop} {w : World} {p : World → Prop} (h : Stab S w p) : p w := h w (Chg.refl S w)
theorem Stab.next {S S' : Nat → Prop} {w w1 : World} {p : World → Prop} (h : Stab S w p) (hc : Chg S w w1) (hs : ∀ k, S' k → S k ∨ w.heap.size ≤ k) : Stab S' w1 p :=
  fun w2 h2 => h w2 (hc.next h2 (fun k hk hlt => (hs k hk).resolve_right (by omega)))
theorem C_nat {kd : IntKind} {w : World} {A : Option Addr} {n k : Nat} {l : List Int} (h : Kd.C (Kd.int kd) w A n l) (hk : k < n) : ∃ ad, A = some ad ∧ w.cell? (ad.add k) = some (.int kd (l.getD k 0)) := by
  obtain ⟨ad, e, h⟩ := Kd.at_int h k (by omega) (by omega)
  exact ⟨ad, e, by simpa [rd] using h⟩
theorem enc_snoc (l : List Int) (k : Nat) (h : k < l.length) : enc (l.take (k + 1)) = enc (l.take k) ++ encU (zz (l.getD k 0)).toNat := by
  have e : l.getD k 0 = l[k] := by simp [List.getD, List.getElem?_eq_getElem h]
  unfold enc
  rw [List.take_succ_eq_append_getElem h, e, List.flatMap_append, List.flatMap_singleton]

set_option maxHeartbeats 800000 in
set_option maxRecDepth 100000 in
theorem int_any (g : Nat) (S : Nat → Prop) (xs l : List Int) (A : Option Addr) (c : Nat) (w : World) (hW : WrAt w S g xs)
    (hl : Stab S w fun w => Kd.C (Kd.int .i64) w A l.length l) (hr : ∀ n ∈ l, -9223372036854775808 ≤ n ∧ n ≤ 9223372036854775807) (hb : xs.length + 10 * l.length ≤ 140737488355328) :
    Calls Try.prog 15 #[.pointer (some ⟨g, 0, none⟩), .slice A l.length c] w fun e w' => e = .returned (.tuple #[]) ∧
      ∃ S', WrAt w' S' g (xs ++ enc l) ∧ Chg S w w' ∧ ∀ k, S' k → S k ∨ w.heap.size ≤ k := by
  go_enter Try.func15, Try.ntmps15
  go_wp2
  go_loopw [9] (fun i wr => ∃ k : Nat, k ≤ l.length ∧ i = .int .i64 k ∧ ∃ S', WrAt wr S' g (xs ++ enc (l.take k)) ∧ Chg S w wr ∧ ∀ k, S' k → S k ∨ w.heap.size ≤ k) (fun i _ => l.length - (intOf i).toNat)
  case atStart => exact ⟨0, Nat.zero_le _, rfl, S, by simpa [enc] using hW, Chg.refl _ _, fun k h => .inl h⟩
  case round =>
    obtain ⟨k, hk, rfl, S', hW', hC, hS'⟩ := hrel
    by_cases hlt : k < l.length
    · obtain ⟨ad, rfl, hcell⟩ := C_nat (hl wr hC) hlt
      have hrk := hr (l.getD k 0) (by rw [List.getD_eq_getElem?_getD, List.getElem?_eq_getElem hlt]; exact List.getElem_mem hlt)
      generalize hn : l.getD k 0 = n at hcell hrk
      have Hn := Lib.hid hn
      clear hn
      obtain ⟨hr0, hr1⟩ := hrk
      have ht := turned_any n wr hr0 hr1
      obtain ⟨z, hz⟩ : ∃ z : Nat, zz n = z := ⟨_, (Int.toNat_of_nonneg (zz_range _ hr0 hr1).1).symm⟩
      rw [hz] at ht
      have hzr : z < 18446744073709551616 := by have := zz_range _ hr0 hr1; omega
      have Hz := Lib.hid hz
      clear hz
      have Ht := Lib.hid ht
      clear ht
      go_wp2_with (go_at_call 20; refine Ht.out.mono ?_; rintro e w' ⟨rfl, rfl⟩)
      obtain ⟨wo, rfl⟩ : ∃ wo : World, wo = wr := ⟨_, rfl⟩
      have hlen : (enc (l.take k)).length ≤ 10 * k := Nat.le_trans (enc_len _ (fun n hn => hr n (List.mem_of_mem_take hn))) (by simp; omega)
      go_loopw [6] (fun u w2 => ∃ (v : Nat) (ys : List Int) (S2 : Nat → Prop), u = .int .u64 v ∧ v < 18446744073709551616 ∧ Hid (encU z = ys ++ encU v) ∧ WrAt w2 S2 g (xs ++ enc (l.take k) ++ ys) ∧ Chg S' wo w2 ∧ (∀ k, S2 k → S' k ∨ wo.heap.size ≤ k)) (fun u _ => (intOf u).toNat)
      case atStart => exact ⟨z, [], S', rfl, hzr, rfl, by simpa using hW', Chg.refl _ _, fun k h => .inl h⟩
      case round =>
        obtain ⟨u, ys, S2, rfl, hu, hy, hW2, hC2, hS2⟩ := hrel
        have hyl : ys.length + (encU u).length ≤ 10 := by
          have h1 := encU_len10 z hzr
          rw [hy.out] at h1
          simpa using h1
        have hul : 0 < (encU u).length := by
          by_cases hb : 127 < u
          · rw [encU_big u hb]; simp
          · rw [encU_small u hb]; simp
        obtain ⟨A2, c2, hg, hv, hS3, hh, ho⟩ := hW2
        have hgl := blk_lt hh
        have hcv : wr.cell? ⟨g, 0, none⟩ = some (.slice A2 (xs ++ enc (l.take k) ++ ys).length c2) := by rw [blk_cell hh]; rfl
        have hfz := blk_frozen hh 0
        have hlb : (xs ++ enc (l.take k) ++ ys).length + 1 ≤ 140737488355328 := by simp; omega
        generalize hX : xs ++ enc (l.take k) ++ ys = X at *
        have HX := Lib.hid hX
        clear hX
        by_cases hbig : 127 < u
        · have hb0 : decide ((127 : Int) < (u : Int)) = true := decide_eq_true (by omega)
          go_wp2_with (at_builtin; refine app_one rfl _ _ 23 5 (.int .u8 0) 1 rfl Try.underlying23 info5 rfl (by decide) _ (nums .u8 X) _ rfl rfl rfl ?ho ?hl ?_)
          case ho => rw [nums_length]; exact ho
          case hl => rw [nums_length]; omega
          rw [nums_length]
          intro A1 c1 w1 ho1 hg1 hat
          have hne : some g ≠ (Value.slice A2 X.length c2).ownBlock := own_ne ho hh (by decide)
          have hh1 := blk_grown hh hg1 hne
          have hgl1 := blk_lt hh1
          have hcv1 : w1.cell? ⟨g, 0, none⟩ = some (.slice A2 X.length c2) := by rw [blk_cell hh1]; rfl
          have hfz1 := blk_frozen hh1 0
          go_wp2
          go_roundw
          case rel =>
            rw [or128 u] at ho1
            obtain ⟨hP, hPc⟩ := WrAt.push (ys := [((u % 128 + 128 : Nat) : Int)]) hg hv hS3 hh ho ho1 hg1 hat
            have HX' := HX.out
            subst HX'
            have hen : encU z = (ys ++ [((u % 128 + 128 : Nat) : Int)]) ++ encU (u / 128) := by rw [hy.out, encU_big u hbig]; simp
            exact ⟨u / 128, ys ++ [((u % 128 + 128 : Nat) : Int)], _, by simp, by omega, hen, by rw [← List.append_assoc]; exact hP, hC2.next hPc (fun k hk hlt => (hS2 k hk).resolve_right (by omega)), fun k hk => by
              rcases hk with hk | hk
              · exact hS2 k hk
              · have := hC2.size; exact .inr (by omega)⟩
          case measure => simp [intOf]; omega
        · have hb0 : decide ((127 : Int) < (u : Int)) = false := decide_eq_false (by omega)
          go_wp2_with (at_builtin; refine app_one rfl _ _ 23 5 (.int .u8 0) 1 rfl Try.underlying23 info5 rfl (by decide) _ (nums .u8 X) _ rfl rfl rfl ?ho ?hl ?_)
          case ho => rw [nums_length]; exact ho
          case hl => rw [nums_length]; omega
          rw [nums_length]
          intro A1 c1 w1 ho1 hg1 hat
          have hne : some g ≠ (Value.slice A2 X.length c2).ownBlock := own_ne ho hh (by decide)
          have hh1 := blk_grown hh hg1 hne
          have hgl1 := blk_lt hh1
          have hcv1 : w1.cell? ⟨g, 0, none⟩ = some (.slice A2 X.length c2) := by rw [blk_cell hh1]; rfl
          have hfz1 := blk_frozen hh1 0
          go_wp2
          go_roundw
          case rel =>
            obtain ⟨hP, hPc⟩ := WrAt.push (ys := [(u : Int)]) hg hv hS3 hh ho ho1 hg1 hat
            have HX' := HX.out
            subst HX'
            have hen : enc (l.take (k + 1)) = enc (l.take k) ++ (ys ++ [(u : Int)]) := by
              rw [enc_snoc l k hlt, Hn.out, Hz.out, Int.toNat_natCast, hy.out, encU_small u hbig]
            exact ⟨k + 1, by omega, by go_num, _, by rw [hen, ← List.append_assoc, ← List.append_assoc]; exact hP, hC.next (hC2.next hPc (fun k hk hlt => (hS2 k hk).resolve_right (by omega))) (fun k hk hlt => (hS' k hk).resolve_right (by omega)), fun k hk => by
              have h1 := hC.size
              have h2 := hC2.size
              rcases hk with hk | hk
              · rcases hS2 k hk with hk | hk
                · exact hS' k hk
                · exact .inr (by omega)
              · exact .inr (by omega)⟩
          case measure => simp [intOf]; omega
    · obtain rfl : k = l.length := by omega
      rw [List.take_length] at hW'
      go_wp2
      go_end0
      exact ⟨rfl, S', hW', hC, hS'⟩

end Go.Proofs.Ytnjbflbalpedoaa
