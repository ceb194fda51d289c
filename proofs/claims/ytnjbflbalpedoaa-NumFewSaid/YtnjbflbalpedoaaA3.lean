/- Contracts of functions that the statement reaches: for every input in the stated bounds the Go function returns what is written, and memory that was there stays. -/
import Derived.Test.YtnjbflbalpedoaaA2
namespace Go.Proofs.Ytnjbflbalpedoaa
open Go.RowKit Go.Proofs.YtnjbflbalpedoaaW.PrintWords

theorem Stab.of_C {α : Type} {d : Kd α} {S : Nat → Prop} {w : World} {A : Option Addr} {n : Nat} {xs : List α} (h : d.C w A n xs) (hS : ∀ k, S k → w.heap.size ≤ k) : Stab S w fun w => d.C w A n xs :=
  fun w' hc => Kd.C_below h (hc.below _ (Nat.le_refl _) (fun k hk hs => by have := hS k hs; omega))
theorem C_own {k : IntKind} {w : World} {base n c : Nat} {e : TypeId} {A : Option Addr} {xs : List Int} (h : w.ownsRow base e 1 (.slice A n c) n (nums k xs)) : Kd.C (Kd.int k) w A xs.length xs := by
  obtain ⟨A', c', he, hr⟩ := own_reads h
  have hn : n = xs.length := by have := h.1; simp [nums_length] at this; omega
  subst hn
  injection he with h1 h2 h3
  subst h1
  exact Kd.C_of_reads (d := 0) (readsInt_of.1 hr)
theorem WrAt.move {w w1 : World} {S : Nat → Prop} {g : Nat} {xs : List Int} (h : WrAt w S g xs) (hs : w.heap.size ≤ w1.heap.size) (hm : ∀ k, S k → w1.heap[k]? = w.heap[k]?) : WrAt w1 S g xs := by
  obtain ⟨A, c, hg, hv, hS, hh, ho⟩ := h
  exact ⟨A, c, hg, hv, fun k hk => Nat.lt_of_lt_of_le (hS k hk) hs, (hm g hg).trans hh, own_move ho (fun k hk => hm k (hv k hk))⟩
theorem WrAt.below {w w1 : World} {S : Nat → Prop} {g : Nat} {xs : List Int} (h : WrAt w S g xs) (hb : Below w.heap.size w w1) : WrAt w1 S g xs :=
  h.move hb.size (fun k hk => hb.block k (by obtain ⟨_, _, _, _, hS, _⟩ := h; exact hS k hk))

set_option maxHeartbeats 2000000 in
set_option maxRecDepth 100000 in
theorem clone_any (A : Option Addr) (c : Nat) (xs : List Int) (w : World) (hx : Kd.C (Kd.int .u8) w A xs.length xs) (hbig : xs.length ≤ 140737488355328) :
    Calls Try.prog 19 #[.slice A xs.length c] w fun e w' => ∃ A' c', e = .returned (.slice A' xs.length c') ∧ w'.ownsRow w.heap.size 5 1 (.slice A' xs.length c') xs.length (nums .u8 xs) ∧ Below w.heap.size w w' := by
  have q22 : ∀ (w : World) (a : Option Addr) (n c n' c' : Nat), (binOp .eql 23 (.slice a n c) (.slice none n' c')).run Try.prog w = .ok (.bool a.isNone) w := fun w a n c n' c' => Lib.run_eql_slice_nil w _ _ a n c n' c' Try.underlying23
  cases A with
  | none =>
    have h0 : xs = [] := by
      cases xs with
      | nil => rfl
      | cons x xs => obtain ⟨ad, h, _⟩ := C_nat (k := 0) hx (by simp); cases h
    subst h0
    go_enter Try.func19, Try.ntmps19
    go_wp2
    go_ret
    exact ⟨none, 0, rfl, World.ownsRow_nil _ _ _ _, Below.refl _ _⟩
  | some a =>
    obtain ⟨i0, hi, hz0, hz1, hz2⟩ := info_parts info5
    have H := Lib.hid hx
    clear hx
    go_enter Try.func19, Try.ntmps19
    go_wp2_with (at_builtin; refine wpList_append_own _ rfl _ _ 23 rfl w.heap.size 5 i0 (.int .u8 0) 1 1 Try.underlying23 hi hz0 hz1 hz2 rfl (by decide) _ _ _ rfl (World.ownsRow_made w #[] 0 (Nat.le_refl _) (Nat.zero_le _) rfl) a xs.length c (nums .u8 xs) rfl ?qc1 ?qc2 ?qc3 ?qc4 ?qc5 ?qc6 ?_)
    case qc1 => simp [nums_length]
    case qc2 =>
      intro j u hj
      have hjn : j < xs.length := by
        have := (List.getElem?_eq_some_iff.1 hj).1
        simpa [nums_length] using this
      obtain ⟨a', ha, hc⟩ := C_nat H.out hjn
      injection ha with ha
      subst ha
      refine Lib.cell?_alloc_some _ ?_
      rw [hc]
      have e : (nums .u8 xs)[j]? = some (Value.int .u8 (xs.getD j 0)) := by simp [nums, List.getD, List.getElem?_eq_getElem hjn]
      rw [e] at hj
      exact hj
    case qc3 => intro u hu; obtain ⟨x, _, rfl⟩ := List.mem_map.1 hu; rfl
    case qc4 => unfold maxLen; omega
    case qc5 => omega
    case qc6 => simp
    intro v' w1 hown hgrow hnil
    obtain ⟨A', c', rfl⟩ := own_slice hown
    go_wp2
    go_ret
    exact ⟨A', c', rfl, hown, ((Below.refl _ w).alloc (Nat.le_refl _) _).grown hgrow (by simp) (by intro k hk; simp [Value.ownBlock] at hk; omega)⟩

set_option maxHeartbeats 400000 in
theorem behind_any (A : Option Addr) (c : Nat) (xs : List Int) (w : World) (hx : Kd.C (Kd.int .u8) w A xs.length xs) (hbig : xs.length ≤ 140737488355328) :
    Calls Try.prog 14 #[.slice A xs.length c] w fun e w' => ∃ g S, e = .returned (.pointer (some ⟨g, 0, none⟩)) ∧ WrAt w' S g xs ∧ (∀ k, S k → w.heap.size ≤ k) ∧ Below w.heap.size w w' := by
  go_enter Try.func14, Try.ntmps14
  go_wp2_with (go_at_call 19; refine (clone_any _ _ _ _ hx hbig).mono ?_; rintro e w' ⟨A', c', rfl, ho, hb⟩)
  go_ret
  have hsz := hb.size
  refine ⟨w'.heap.size, fun k => w.heap.size ≤ k ∧ k ≤ w'.heap.size, rfl, ⟨A', c', ⟨hsz, Nat.le_refl _⟩, ?_, ?_, blk_new _ _, ?_⟩, fun k hk => hk.1, below_alloc hb _⟩
  · intro k hk
    have := (World.ownsRow.lt ho) k hk
    omega
  · intro k hk; simp; omega
  · exact own_weaken (World.ownsRow.alloc ho _) (Nat.zero_le _)


set_option maxHeartbeats 400000 in
theorem bytes_any (g : Nat) (S : Nat → Prop) (xs : List Int) (w : World) (hW : WrAt w S g xs) (hbig : xs.length ≤ 140737488355328) :
    Calls Try.prog 16 #[.pointer (some ⟨g, 0, none⟩)] w fun e w' => ∃ A' c', e = .returned (.slice A' xs.length c') ∧ w'.ownsRow w.heap.size 5 1 (.slice A' xs.length c') xs.length (nums .u8 xs) ∧ Below w.heap.size w w' := by
  obtain ⟨A, c, hg, hv, hS, hh, ho⟩ := hW
  have hcv : w.cell? ⟨g, 0, none⟩ = some (.slice A xs.length c) := by rw [blk_cell hh]; rfl
  go_enter Try.func16, Try.ntmps16
  go_wp2_with (go_at_call 19; refine (clone_any _ _ _ _ (C_own ho) hbig).mono ?_; rintro e w' ⟨A', c', rfl, ho', hb⟩)
  go_ret
  exact ⟨A', c', rfl, ho', hb⟩

set_option maxHeartbeats 400000 in
theorem put_any (A : Option Addr) (c : Nat) (xs : List Int) (B : Option Addr) (d : Nat) (l : List Int) (w : World) (hx : Kd.C (Kd.int .u8) w A xs.length xs)
    (hl : Kd.C (Kd.int .i64) w B l.length l) (hr : ∀ n ∈ l, -9223372036854775808 ≤ n ∧ n ≤ 9223372036854775807) (hb : xs.length + 10 * l.length ≤ 140737488355328) :
    Calls Try.prog 6 #[.slice A xs.length c, .slice B l.length d] w fun e w' => ∃ A' c', e = .returned (.slice A' (xs ++ enc l).length c') ∧ w'.ownsRow w.heap.size 5 1 (.slice A' (xs ++ enc l).length c') (xs ++ enc l).length (nums .u8 (xs ++ enc l)) ∧ Below w.heap.size w w' := by
  have hlen := enc_len l hr
  go_enter Try.func6, Try.ntmps6
  go_wp2_with (go_at_call 14; refine (behind_any _ _ _ _ hx (by omega)).mono ?_; rintro e w1 ⟨g, S, rfl, hW, hS, hb1⟩)
  have hst : Stab S w1 (fun w => Kd.C (Kd.int .i64) w B l.length l) := (Stab.of_C hl hS).next (Chg.of_below hb1) (fun k hk => .inl hk)
  have hz1 := hb1.size
  go_wp2_with (go_at_call 15; refine (int_any g S xs l B d _ hW hst hr hb).mono ?_; rintro e w2 ⟨rfl, S', hW', hC, hS'⟩)
  have hb2 : Below w.heap.size w w2 := hb1.trans (hC.below _ hz1 (fun k hk hs => by have := hS k hs; omega))
  have hz2 := hb2.size
  go_wp2_with (go_at_call 16; refine (bytes_any g S' _ _ hW' (by simp; omega)).mono ?_; rintro e w3 ⟨A', c', rfl, ho, hb3⟩)
  go_ret
  exact ⟨A', c', by simp, own_weaken ho hz2, below_then hb2 hz2 hb3⟩

theorem C_lit {k : IntKind} {w : World} {g : Nat} {t : TypeId} {fr : Nat × Nat} (xs : List Int) (h : w.heap[g]? = some (.cells (nums k xs).toArray t fr)) (hb : xs.length ≤ 9223372036854775807) : Kd.C (Kd.int k) w (some ⟨g, 0, none⟩) xs.length xs := by
  refine ⟨rfl, hb, fun _ => ⟨_, rfl, fun j p hj => ⟨[.int k p], rfl, rfl, fun i u hu => ?_⟩⟩⟩
  have hi : i = 0 := by have := (List.getElem?_eq_some_iff.1 hu).1; simp at this; omega
  subst hi
  rw [show j * (Kd.int k).sz + 0 = j by simp [Kd.int, Kd.scalar], add_plain, cell_of_row w g j _ t fr h]
  simp at hu
  subst hu
  simp [nums, hj]

end Go.Proofs.Ytnjbflbalpedoaa
