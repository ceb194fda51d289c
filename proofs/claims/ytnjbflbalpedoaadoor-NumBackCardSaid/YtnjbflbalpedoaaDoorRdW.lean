/- Contracts of chapter 2's reader: each method answers what the plain functions (RdP) say; only the reader's own block and new blocks are written. -/
import Derived.Test.YtnjbflbalpedoaaDoorNumW
import Derived.Test.YtnjbflbalpedoaaDoorRdP
import Derived.Test.YtnjbflbalpedoaaDoorErrs
namespace Go.Proofs.YtnjbflbalpedoaaDoor
open Go.RowKit Go.Proofs.YtnjbflbalpedoaaDoorW.PrintWords

/-- the errors that a reader tells -/
def rdErrs : List Nat := [101, 102, 105, 107]
/-- a reader at block g: what is left, the first error; S: what may be written -/
def RdAt (ad : Nat → Addr) (w : World) (S : Nat → Prop) (g : Nat) (bs : List Int) (err : Option Nat) : Prop :=
  ∃ A c, S g ∧ w.heap[g]? = some (.cells #[.slice A bs.length c, errV ad err] 51 (0, 0)) ∧ Stab S w (fun w => Kd.C (Kd.int .u8) w A bs.length bs) ∧ (∀ x ∈ bs, 0 ≤ x ∧ x < 256) ∧ bs.length ≤ c ∧ c ≤ 9223372036854775807

theorem C_tail {k : IntKind} {w : World} {a : Addr} {n : Nat} {x : Int} {xs : List Int} (h : Kd.C (Kd.int k) w (some a) n (x :: xs)) : Kd.C (Kd.int k) w (some (a.add 1)) xs.length xs := by
  have hl := h.1
  have hb := h.2.1
  simp at hl
  refine C_of_cells' 0 xs (by omega) (fun i hi => ?_)
  obtain ⟨ad, e, hc⟩ := C_nat (k := i + 1) h (by omega)
  injection e with e
  subst e
  rw [add_add' a 1 i, Nat.add_comm 1 i, hc]
  simp [List.getD]

set_option maxHeartbeats 800000 in
set_option maxRecDepth 100000 in
theorem one_any {L : List Nat} (ad : Nat → Addr) (S : Nat → Prop) (g : Nat) (bs : List Int) (err : Option Nat) (w : World) (hR : RdAt ad w S g bs err) (hE : EOk L ad w) (hG : NoG L ad S) (hL : ∀ c ∈ rdErrs, c ∈ L) :
    Calls Tryd.prog 28 #[.pointer (some ⟨g, 0, none⟩)] w fun e w' => e = .returned (.tuple #[.int .u8 (rdOne bs err).1, .bool (rdOne bs err).2.1]) ∧
      RdAt ad w' S g (rdOne bs err).2.2.1 (rdOne bs err).2.2.2 ∧ Chg (· = g) w w' := by
  obtain ⟨A, c, hg, hh, hst, hby, hlc, hcm⟩ := hR
  have hgl := blk_lt hh
  have c0 : w.cell? ⟨g, 0, none⟩ = some (.slice A bs.length c) := by rw [blk_cell hh]; rfl
  have c1 : w.cell? ⟨g, 1, none⟩ = some (errV ad err) := by rw [blk_cell hh]; rfl
  have f0 := blk_frozen hh 0
  have f1 := blk_frozen hh 1
  have hmv : ∀ (v : Value) (i : Nat), Chg (· = g) w (w.setCell ⟨g, i, none⟩ v) := fun v i => Chg.setCell (p := ⟨g, i, none⟩) (Chg.refl (· = g) w) (fun _ => rfl) v
  have hsub : ∀ {w1 : World}, Chg (· = g) w w1 → Stab S w1 (fun w => Kd.C (Kd.int .u8) w A bs.length bs) := fun hc => hst.next (hc.weaken (fun k hk _ => hk ▸ hg)) (fun k hk => .inl hk)
  cases err with
  | some e =>
    simp only [errV] at c1
    go_enter Tryd.func28, Tryd.ntmps28
    go_wp2
    go_ret2
    exact ⟨rfl, ⟨A, c, hg, hh, hst, hby, hlc, hcm⟩, Chg.refl _ _⟩
  | none =>
    simp only [errV] at c1
    cases bs with
    | nil =>
      have e1 := (hE 101 (hL 101 (by decide))).1
      simp only [errV, gnum] at e1
      go_enter Tryd.func28, Tryd.ntmps28
      go_wp2
      go_ret2
      have hP : RdAt ad (w.setCell ⟨g, 1, none⟩ (errV ad (some 101))) S g [] (some 101) := ⟨A, c, hg, by simpa using blk_set hh 1 (errV ad (some 101)), hsub (hmv _ _), hby, hlc, hcm⟩
      exact ⟨rfl, hP, hmv _ _⟩
    | cons x r =>
      have hC := hst.now
      obtain ⟨a, rfl, hcell⟩ := C_nat (k := 0) hC (by simp)
      have hcell' : w.cell? a = some (Value.int IntKind.u8 x) := by simpa [go_sem] using hcell
      clear hcell
      have hx := hby x (List.mem_cons_self ..)
      have hby' : ∀ y ∈ r, 0 ≤ y ∧ y < 256 := fun y hy => hby y (List.mem_cons_of_mem _ hy)
      have hlc' : r.length + 1 ≤ c := by simpa using hlc
      have hst' : ∀ {w1 : World}, Chg (· = g) w w1 → Stab S w1 (fun w => Kd.C (Kd.int .u8) w (some (a.add 1)) r.length r) := fun hc => (hsub hc).imp (fun w h => C_tail h)
      have hlen : (x :: r).length = r.length + 1 := rfl
      simp only [hlen] at hh c0
      clear hst hC hsub hlc hlen hby
      by_cases hc1 : c = 1
      · subst hc1
        obtain rfl : r = [] := List.eq_nil_of_length_eq_zero (by omega)
        go_enter Tryd.func28, Tryd.ntmps28
        go_wp2
        go_ret2
        have hP : RdAt ad (w.setCell ⟨g, 0, none⟩ (.slice (some a) 0 0)) S g [] none := ⟨some a, 0, hg, by simpa [errV] using blk_set hh 0 (.slice (some a) 0 0), fun w' _ => C_nil _ _ _, by simp, by simp, by omega⟩
        exact ⟨rfl, hP, hmv _ _⟩
      · have hb1 : (c == 1) = false := by simpa using hc1
        go_enter Tryd.func28, Tryd.ntmps28
        go_wp2
        go_ret2
        have hP : RdAt ad (w.setCell ⟨g, 0, none⟩ (.slice (some (a.add 1)) r.length (c - 1))) S g r none := ⟨some (a.add 1), c - 1, hg, by simpa [errV] using blk_set hh 0 (.slice (some (a.add 1)) r.length (c - 1)), hst' (hmv _ _), hby', by omega, by omega⟩
        exact ⟨rfl, hP, hmv _ _⟩

set_option maxHeartbeats 400000 in
theorem back_any (u : Nat) (w : World) (hu : u < 18446744073709551616) :
    Calls Tryd.prog 25 #[.int .u64 u] w fun e w' => e = .returned (.int .i64 (unzz u)) ∧ w = w' := by
  have he := Lib.hid (unzz_eq u hu)
  go_enter Tryd.func25, Tryd.ntmps25
  go_wp2
  go_ret
  exact ⟨by rw [← he.out]; rfl, rfl⟩

theorem RdAt.cells {ad : Nat → Addr} {w : World} {S : Nat → Prop} {g : Nat} {bs : List Int} {err : Option Nat} (h : RdAt ad w S g bs err) :
    w.cell? ⟨g, 1, none⟩ = some (errV ad err) ∧ w.frozen? ⟨g, 1, none⟩ = false ∧ g < w.heap.size := by
  obtain ⟨A, c, hg, hh, _⟩ := h
  exact ⟨by rw [blk_cell hh]; rfl, blk_frozen hh 1, blk_lt hh⟩
theorem RdAt.setErr {ad : Nat → Addr} {w : World} {S : Nat → Prop} {g : Nat} {bs : List Int} {err : Option Nat} (h : RdAt ad w S g bs err) (e : Option Nat) :
    RdAt ad (w.setCell ⟨g, 1, none⟩ (errV ad e)) S g bs e ∧ Chg (· = g) w (w.setCell ⟨g, 1, none⟩ (errV ad e)) := by
  obtain ⟨A, c, hg, hh, hst, hr⟩ := h
  have hc : Chg (· = g) w (w.setCell ⟨g, 1, none⟩ (errV ad e)) := Chg.setCell (p := ⟨g, 1, none⟩) (Chg.refl (· = g) w) (fun _ => rfl) _
  exact ⟨⟨A, c, hg, by simpa using blk_set hh 1 (errV ad e), hst.next (hc.weaken (fun k hk _ => hk ▸ hg)) (fun k hk => .inl hk), hr⟩, hc⟩
theorem RdAt.bytes {ad : Nat → Addr} {w : World} {S : Nat → Prop} {g : Nat} {bs : List Int} {err : Option Nat} (h : RdAt ad w S g bs err) : ∀ x ∈ bs, 0 ≤ x ∧ x < 256 := by
  obtain ⟨A, c, hg, hh, hst, hr, _⟩ := h
  exact hr
theorem RdAt.below {ad : Nat → Addr} {w w1 : World} {S : Nat → Prop} {g : Nat} {bs : List Int} {err : Option Nat} (h : RdAt ad w S g bs err) (hb : Below w.heap.size w w1) : RdAt ad w1 S g bs err := by
  obtain ⟨A, c, hg, hh, hst, hr⟩ := h
  exact ⟨A, c, hg, blk_below hh hb, hst.next (Chg.of_below hb) (fun k hk => .inl hk), hr⟩
theorem RdAt.other {ad : Nat → Addr} {w w1 : World} {S S' : Nat → Prop} {g : Nat} {bs : List Int} {err : Option Nat} (h : RdAt ad w S g bs err) (hc : Chg S' w w1) (hs : ∀ k, S' k → k < w.heap.size → S k) (hg : ¬ S' g) : RdAt ad w1 S g bs err := by
  obtain ⟨A, c, hgs, hh, hst, hr⟩ := h
  exact ⟨A, c, hgs, (hc.block g (blk_lt hh) hg).trans hh, hst.next (hc.weaken hs) (fun k hk => .inl hk), hr⟩
/-- another block is written, above what is read -/
theorem RdAt.move {ad : Nat → Addr} {w w1 : World} {g g' : Nat} {bs : List Int} {err : Option Nat} (h : RdAt ad w (· = g) g bs err) (hc : Chg (· = g') w w1) (hg : w.heap.size ≤ g' ∨ (g' ≠ g ∧ False)) : RdAt ad w1 (· = g) g bs err := by
  have hg : w.heap.size ≤ g' := hg.elim id (fun h => h.2.elim)
  exact h.below (hc.below _ (Nat.le_refl _) (fun k hk e => by omega))
theorem RdAt.mem {ad : Nat → Addr} {w : World} {S : Nat → Prop} {g : Nat} {bs : List Int} {err : Option Nat} (h : RdAt ad w S g bs err) : S g := by
  obtain ⟨A, c, hg, _⟩ := h
  exact hg
theorem Chg.same {g : Nat} {w w1 w2 : World} (h : Chg (· = g) w w1) (k : Chg (· = g) w1 w2) : Chg (· = g) w w2 := h.next k (fun _ e _ => e)
theorem NoG.one {L : List Nat} {ad : Nat → Addr} {g : Nat} {S : Nat → Prop} (h : NoG L ad S) (hg : S g) : NoG L ad (· = g) := fun c hL => ⟨fun e => (h c hL).1 (by rw [show gnum c = g from e]; exact hg), fun e => (h c hL).2 (by rw [show (ad c).block = g from e]; exact hg)⟩

set_option maxHeartbeats 1600000 in
set_option maxRecDepth 100000 in
theorem whole_any {L : List Nat} (ad : Nat → Addr) (S : Nat → Prop) (g : Nat) (bs : List Int) (err : Option Nat) (w : World) (hR : RdAt ad w S g bs err) (hE : EOk L ad w) (hG : NoG L ad S) (hL : ∀ c ∈ rdErrs, c ∈ L) :
    Calls Tryd.prog 26 #[.pointer (some ⟨g, 0, none⟩)] w fun e w' => ∃ u : Nat, u < 18446744073709551616 ∧ e = .returned (.int .u64 u) ∧ (err = none → u = (rdWhole 0 0 bs).1) ∧
      RdAt ad w' S g (rdBs bs err) (rdErr bs err) ∧ Chg (· = g) w w' := by
  have hG1 := hG.one hR.mem
  cases err with
  | some e0 =>
    go_enter Tryd.func26, Tryd.ntmps26
    go_wp2_with fail
    refine wp_loop_rounds 1 ?_
    rw [rounds_succ]
    go_wp2_with fail
    refine (one_any ad S g bs (some e0) w hR hE hG hL).mono ?_
    rintro e w1 ⟨rfl, hR1, hC1⟩
    go_wp2
    go_ret
    exact ⟨0, by omega, rfl, by simp, hR1, hC1⟩
  | none =>
    go_enter Tryd.func26, Tryd.ntmps26
    go_wp2_with fail
    go_loopw [3, 8] (fun vu vk wr => ∃ (k u : Nat) (bs' : List Int), vu = .int .u64 u ∧ vk = .int .i64 k ∧ k ≤ 9 ∧ u < 128 ^ k ∧ Hid (rdWhole 0 0 bs = rdWhole k u bs') ∧ RdAt ad wr S g bs' none ∧ Chg (· = g) w wr) (fun _ vk _ => 10 - (intOf vk).toNat)
    case atStart => exact ⟨0, 0, bs, rfl, rfl, by omega, by simp, rfl, hR, Chg.refl _ _⟩
    case round =>
      clear hR
      obtain ⟨k, u, bs', rfl, rfl, hk, hu, HW, hR', hC'⟩ := hrel
      have hlt : (k : Int) < 10 := by omega
      have hE' := hE.chg hG1 hC'
      have Hu := Lib.hid hu
      clear hu
      cases bs' with
      | nil =>
        have Hone : Hid (Calls Tryd.prog 28 #[.pointer (some ⟨g, 0, none⟩)] wr fun e w' => e = .returned (.tuple #[.int .u8 0, .bool false]) ∧ RdAt ad w' S g [] (some 101) ∧ Chg (· = g) wr w') := one_any ad S g [] none wr hR' hE' hG hL
        clear hE' hR'
        go_wp2_with fail
        refine Hone.out.mono ?_
        clear Hone
        rintro e w1 ⟨rfl, hR1, hC1⟩
        go_wp2
        go_ret
        have hw : rdWhole 0 0 bs = (0, [], some 101) := by rw [HW.out]; rfl
        refine ⟨0, by omega, rfl, fun _ => by rw [hw], ?_, hC'.same hC1⟩
        simp only [rdBs, rdErr, hw]
        exact hR1
      | cons c r =>
        have Hone : Hid (Calls Tryd.prog 28 #[.pointer (some ⟨g, 0, none⟩)] wr fun e w' => e = .returned (.tuple #[.int .u8 c, .bool true]) ∧ RdAt ad w' S g r none ∧ Chg (· = g) wr w') := one_any ad S g (c :: r) none wr hR' hE' hG hL
        obtain ⟨hc0, hc1⟩ := hR'.bytes c (List.mem_cons_self ..)
        clear hE' hR'
        go_wp2_with fail
        refine Hone.out.mono ?_
        clear Hone
        rintro e w1 ⟨rfl, hR1, hC1⟩
        obtain ⟨hcell, hfr, hgl1⟩ := hR1.cells
        have hE1 := ((hE.chg hG1 (hC'.same hC1)) 102 (hL 102 (by decide))).1
        simp only [errV, gnum] at hE1
        have Hm : Hid (rdWhole k u (c :: r) = if k = 9 ∧ 1 < c ∨ c = 0 ∧ 0 < k then (0, r, some 102) else if c < 128 then (u + c.toNat * 128 ^ k, r, none) else rdWhole (k + 1) (u + (c.toNat - 128) * 128 ^ k) r) := rfl
        go_wp2
        · have h1 : (k : Int) = 9 := by assumption
          have h2 : 1 < c := by assumption
          have hw : rdWhole 0 0 bs = (0, r, some 102) := by rw [HW.out, Hm.out, if_pos (.inl ⟨by omega, h2⟩)]
          have hS := hR1.setErr (some 102)
          go_ret
          refine ⟨0, by omega, rfl, fun _ => by rw [hw], ?_, (hC'.same hC1).same hS.2⟩
          simp only [rdBs, rdErr, hw]
          exact hS.1
        · have h1 : (k : Int) = 9 := by assumption
          have h2 : c = 0 := by assumption
          have hw : rdWhole 0 0 bs = (0, r, some 102) := by rw [HW.out, Hm.out, if_pos (.inr ⟨h2, by omega⟩)]
          have hS := hR1.setErr (some 102)
          go_ret
          refine ⟨0, by omega, rfl, fun _ => by rw [hw], ?_, (hC'.same hC1).same hS.2⟩
          simp only [rdBs, rdErr, hw]
          exact hS.1
        · have h1 : (k : Int) = 9 := by assumption
          have h2 : c ≤ 1 := by assumption
          have h3 : ¬ c = 0 := by assumption
          have hst := rdStep u k c hk Hu.out hc0 hc1 (fun _ => by omega)
          have hlt2 := u128_lt u k c hk Hu.out (fun _ => by omega) hc0
          have hmod : c.toNat % 128 = c.toNat := Nat.mod_eq_of_lt (by omega)
          rw [hmod] at hst hlt2
          have hw : rdWhole 0 0 bs = (u + c.toNat * 128 ^ k, r, none) := by rw [HW.out, Hm.out, if_neg (by omega), if_pos (by omega)]
          go_ret
          refine ⟨u + c.toNat * 128 ^ k, hlt2.1, by rw [← hst]; rfl, fun _ => by rw [hw], ?_, hC'.same hC1⟩
          simp only [rdBs, rdErr, hw]
          exact hR1
        · have h1 : ¬ (k : Int) = 9 := by assumption
          have h2 : c = 0 := by assumption
          have h3 : 0 < k := by assumption
          have hw : rdWhole 0 0 bs = (0, r, some 102) := by rw [HW.out, Hm.out, if_pos (.inr ⟨h2, by omega⟩)]
          have hS := hR1.setErr (some 102)
          go_ret
          refine ⟨0, by omega, rfl, fun _ => by rw [hw], ?_, (hC'.same hC1).same hS.2⟩
          simp only [rdBs, rdErr, hw]
          exact hS.1
        · have h1 : ¬ (k : Int) = 9 := by assumption
          have h2 : c = 0 := by assumption
          have h3 : ¬ 0 < k := by assumption
          have hst := rdStep u k c hk Hu.out hc0 hc1 (fun _ => by omega)
          have hlt2 := u128_lt u k c hk Hu.out (fun _ => by omega) hc0
          have hmod : c.toNat % 128 = c.toNat := Nat.mod_eq_of_lt (by omega)
          rw [hmod] at hst hlt2
          have hw : rdWhole 0 0 bs = (u + c.toNat * 128 ^ k, r, none) := by rw [HW.out, Hm.out, if_neg (by omega), if_pos (by omega)]
          go_ret
          refine ⟨u + c.toNat * 128 ^ k, hlt2.1, by rw [← hst, h2]; rfl, fun _ => by rw [hw], ?_, hC'.same hC1⟩
          simp only [rdBs, rdErr, hw]
          exact hR1
        · have h1 : ¬ (k : Int) = 9 := by assumption
          have h2 : ¬ c = 0 := by assumption
          have h3 : c < 128 := by assumption
          have hst := rdStep u k c hk Hu.out hc0 hc1 (fun _ => by omega)
          have hlt2 := u128_lt u k c hk Hu.out (fun _ => by omega) hc0
          have hmod : c.toNat % 128 = c.toNat := Nat.mod_eq_of_lt (by omega)
          rw [hmod] at hst hlt2
          have hw : rdWhole 0 0 bs = (u + c.toNat * 128 ^ k, r, none) := by rw [HW.out, Hm.out, if_neg (by omega), if_pos (by omega)]
          go_ret
          refine ⟨u + c.toNat * 128 ^ k, hlt2.1, by rw [← hst]; rfl, fun _ => by rw [hw], ?_, hC'.same hC1⟩
          simp only [rdBs, rdErr, hw]
          exact hR1
        · have h1 : ¬ (k : Int) = 9 := by assumption
          have h3 : 128 ≤ c := by assumption
          have hst := rdStep u k c hk Hu.out hc0 hc1 (fun _ => by omega)
          have hlt2 := u128_lt u k c hk Hu.out (fun _ => by omega) hc0
          have hmod : c.toNat % 128 = c.toNat - 128 := by omega
          rw [hmod] at hst hlt2
          refine ⟨⟨k + 1, u + (c.toNat - 128) * 128 ^ k, r, by rw [hst], by go_num, by omega, hlt2.2, ?_, hR1, hC'.same hC1⟩, by simp [intOf]; omega⟩
          show _ = _
          rw [HW.out, Hm.out, if_neg (by omega), if_neg (by omega)]

set_option maxHeartbeats 800000 in
set_option maxRecDepth 100000 in
theorem rInt_any {L : List Nat} (ad : Nat → Addr) (S : Nat → Prop) (g : Nat) (bs : List Int) (err : Option Nat) (low high : Int) (w : World) (hR : RdAt ad w S g bs err) (hE : EOk L ad w) (hG : NoG L ad S) (hL : ∀ c ∈ rdErrs, c ∈ L) :
    Calls Tryd.prog 8 #[.pointer (some ⟨g, 0, none⟩), .int .i64 low, .int .i64 high] w fun e w' => e = .returned (.int .i64 (rdInt bs err low high).1) ∧
      RdAt ad w' S g (rdInt bs err low high).2.1 (rdInt bs err low high).2.2 ∧ Chg (· = g) w w' := by
  have hG1 := hG.one hR.mem
  have Hw := Lib.hid (whole_any ad S g bs err w hR hE hG hL)
  clear hR
  go_enter Tryd.func8, Tryd.ntmps8
  go_wp2_with fail
  refine Hw.out.mono ?_
  clear Hw
  rintro e w1 ⟨u, hu, rfl, hur, hR1, hC1⟩
  have hE1 := ((hE.chg hG1 hC1) 107 (hL 107 (by decide))).1
  simp only [errV, gnum] at hE1
  have HUR := Lib.hid hur
  clear hur
  go_wp2_with fail
  refine (back_any u w1 hu).mono ?_
  rintro e w2 ⟨rfl, rfl⟩
  obtain ⟨hcell, hfr, hgl1⟩ := hR1.cells
  cases err with
  | some e0 =>
    simp only [rdErr, errV] at hcell
    go_wp2
    go_ret
    exact ⟨rfl, hR1, hC1⟩
  | none =>
    have hri := rdInt_none bs low high
    rw [← HUR.out rfl] at hri
    cases hre : rdErr bs none with
    | some e0 =>
      rw [hre] at hri hcell hR1
      have HRI := Lib.hid hri
      clear hri hre
      simp only [errV] at hcell
      go_wp2
      go_ret
      rw [HRI.out]
      exact ⟨rfl, hR1, hC1⟩
    | none =>
      rw [hre] at hri hcell hR1
      have HRI := Lib.hid hri
      clear hri hre
      simp only [errV] at hcell
      have hS := hR1.setErr (some 107)
      go_wp2
      all_goals
        go_ret
        rw [HRI.out]
        first
          | (rw [if_pos (by omega)]; exact ⟨rfl, hS.1, hC1.same hS.2⟩)
          | (rw [if_neg (by omega)]; exact ⟨rfl, hR1, hC1⟩)

set_option maxHeartbeats 800000 in
set_option maxRecDepth 100000 in
theorem rFlag_any {L : List Nat} (ad : Nat → Addr) (S : Nat → Prop) (g : Nat) (bs : List Int) (err : Option Nat) (w : World) (hR : RdAt ad w S g bs err) (hE : EOk L ad w) (hG : NoG L ad S) (hL : ∀ c ∈ rdErrs, c ∈ L) :
    Calls Tryd.prog 13 #[.pointer (some ⟨g, 0, none⟩)] w fun e w' => e = .returned (.bool (rdFlag bs err).1) ∧
      RdAt ad w' S g (rdFlag bs err).2.1 (rdFlag bs err).2.2 ∧ Chg (· = g) w w' := by
  have hG1 := hG.one hR.mem
  cases err with
  | some e0 =>
    have Hone : Hid (Calls Tryd.prog 28 #[.pointer (some ⟨g, 0, none⟩)] w fun e w' => e = .returned (.tuple #[.int .u8 0, .bool false]) ∧ RdAt ad w' S g bs (some e0) ∧ Chg (· = g) w w') := one_any ad S g bs (some e0) w hR hE hG hL
    go_enter Tryd.func13, Tryd.ntmps13
    go_wp2_with fail
    refine Hone.out.mono ?_
    rintro e w1 ⟨rfl, hR1, hC1⟩
    go_wp2
    go_ret
    exact ⟨rfl, hR1, hC1⟩
  | none =>
    cases bs with
    | nil =>
      have Hone : Hid (Calls Tryd.prog 28 #[.pointer (some ⟨g, 0, none⟩)] w fun e w' => e = .returned (.tuple #[.int .u8 0, .bool false]) ∧ RdAt ad w' S g [] (some 101) ∧ Chg (· = g) w w') := one_any ad S g [] none w hR hE hG hL
      go_enter Tryd.func13, Tryd.ntmps13
      go_wp2_with fail
      refine Hone.out.mono ?_
      rintro e w1 ⟨rfl, hR1, hC1⟩
      go_wp2
      go_ret
      exact ⟨rfl, hR1, hC1⟩
    | cons c r =>
      have Hone : Hid (Calls Tryd.prog 28 #[.pointer (some ⟨g, 0, none⟩)] w fun e w' => e = .returned (.tuple #[.int .u8 c, .bool true]) ∧ RdAt ad w' S g r none ∧ Chg (· = g) w w') := one_any ad S g (c :: r) none w hR hE hG hL
      obtain ⟨hc0, hc1⟩ := hR.bytes c (List.mem_cons_self ..)
      clear hR
      go_enter Tryd.func13, Tryd.ntmps13
      go_wp2_with fail
      refine Hone.out.mono ?_
      rintro e w1 ⟨rfl, hR1, hC1⟩
      obtain ⟨hcell, hfr, hgl1⟩ := hR1.cells
      have hE1 := ((hE.chg hG1 hC1) 102 (hL 102 (by decide))).1
      simp only [errV, gnum] at hE1
      have hS := hR1.setErr (some 102)
      have HF : Hid (rdFlag (c :: r) none = if 1 < c then (false, r, some 102) else (decide (c = 1), r, none)) := rfl
      by_cases h1 : 1 < c
      · have hb : (c == 1) = false := by simp; omega
        go_wp2
        go_ret
        rw [HF.out, if_pos h1]
        exact ⟨rfl, hS.1, hC1.same hS.2⟩
      · by_cases h2 : c = 1
        · subst h2
          go_wp2
          go_ret
          rw [HF.out, if_neg (by omega)]
          exact ⟨rfl, hR1, hC1⟩
        · have hb : (c == 1) = false := by simpa using h2
          go_wp2
          go_ret
          rw [HF.out, if_neg (by omega), decide_eq_false h2]
          exact ⟨rfl, hR1, hC1⟩

set_option maxHeartbeats 400000 in
theorem rLeft_any (ad : Nat → Addr) (S : Nat → Prop) (g : Nat) (bs : List Int) (err : Option Nat) (w : World) (hR : RdAt ad w S g bs err) :
    Calls Tryd.prog 17 #[.pointer (some ⟨g, 0, none⟩)] w fun e w' => e = .returned (.int .i64 (bs.length : Int)) ∧ w = w' := by
  obtain ⟨A, c, hg, hh, hst, _⟩ := hR
  have c0 : w.cell? ⟨g, 0, none⟩ = some (.slice A bs.length c) := by rw [blk_cell hh]; rfl
  go_enter Tryd.func17, Tryd.ntmps17
  go_wp2
  go_ret
  exact ⟨rfl, rfl⟩

set_option maxHeartbeats 400000 in
theorem rErr_any (ad : Nat → Addr) (S : Nat → Prop) (g : Nat) (bs : List Int) (err : Option Nat) (w : World) (hR : RdAt ad w S g bs err) :
    Calls Tryd.prog 16 #[.pointer (some ⟨g, 0, none⟩)] w fun e w' => e = .returned (errV ad err) ∧ w = w' := by
  obtain ⟨hcell, _, _⟩ := hR.cells
  cases err with
  | some e0 =>
    simp only [errV] at hcell
    go_enter Tryd.func16, Tryd.ntmps16
    go_wp2
    go_ret
    exact ⟨rfl, rfl⟩
  | none =>
    simp only [errV] at hcell
    go_enter Tryd.func16, Tryd.ntmps16
    go_wp2
    go_ret
    exact ⟨rfl, rfl⟩

set_option maxHeartbeats 800000 in
theorem rDone_any {L : List Nat} (ad : Nat → Addr) (S : Nat → Prop) (g : Nat) (bs : List Int) (err : Option Nat) (w : World) (hR : RdAt ad w S g bs err) (hE : EOk L ad w) (hL : ∀ c ∈ rdErrs, c ∈ L) :
    Calls Tryd.prog 18 #[.pointer (some ⟨g, 0, none⟩)] w fun e w' => e = .returned (errV ad (rdDone bs err)) ∧ w = w' := by
  obtain ⟨hcell, _, _⟩ := hR.cells
  obtain ⟨A, c, hg, hh, hst, _⟩ := hR
  have c0 : w.cell? ⟨g, 0, none⟩ = some (.slice A bs.length c) := by rw [blk_cell hh]; rfl
  have hE1 := (hE 102 (hL 102 (by decide))).1
  simp only [errV, gnum] at hE1
  clear hst hh
  cases err with
  | some e0 =>
    simp only [errV] at hcell
    go_enter Tryd.func18, Tryd.ntmps18
    go_wp2
    go_ret
    exact ⟨rfl, rfl⟩
  | none =>
    simp only [errV] at hcell
    by_cases hb : 0 < bs.length
    · have hd : rdDone bs none = some 102 := by simp [rdDone, hb]
      have HD := Lib.hid hd
      clear hd
      have hb2 : decide ((0 : Int) < (bs.length : Int)) = true := decide_eq_true (by omega)
      go_enter Tryd.func18, Tryd.ntmps18
      go_wp2
      go_ret
      rw [HD.out]
      exact ⟨rfl, rfl⟩
    · have hd : rdDone bs none = none := by simp only [rdDone, if_neg hb]
      have HD := Lib.hid hd
      clear hd
      have hb2 : decide ((0 : Int) < (bs.length : Int)) = false := decide_eq_false (by omega)
      go_enter Tryd.func18, Tryd.ntmps18
      go_wp2
      go_ret
      rw [HD.out]
      exact ⟨rfl, rfl⟩

set_option maxHeartbeats 800000 in
theorem read_any (ad : Nat → Addr) (A : Option Addr) (c : Nat) (xs : List Int) (w : World) (hx : Kd.C (Kd.int .u8) w A xs.length xs) (hby : ∀ x ∈ xs, 0 ≤ x ∧ x < 256) (hbig : xs.length ≤ 140737488355328) :
    Calls Tryd.prog 7 #[.slice A xs.length c] w fun e w' => ∃ g, e = .returned (.pointer (some ⟨g, 0, none⟩)) ∧ w.heap.size ≤ g ∧ g < w'.heap.size ∧ Below w.heap.size w w' ∧
      ∀ S : Nat → Prop, S g → (∀ k, S k → k < w.heap.size ∨ g ≤ k) → RdAt ad w' S g xs none := by
  go_enter Tryd.func7, Tryd.ntmps7
  go_wp2_with (go_at_call 24; refine (clone_any _ _ _ _ hx hbig).mono ?_; rintro e w1 ⟨A', c', rfl, ho, hb⟩)
  go_ret
  have hs := hb.size
  refine ⟨w1.heap.size, rfl, hs, by simp, below_alloc hb _, fun S hg hS => ⟨A', c', hg, blk_new _ _, ?_, hby, own_le ho, ?_⟩⟩
  · have hst : Stab S (w1.alloc (.cells #[.slice A' xs.length c', .nilIface] 51)) (fun w => w.ownsRow 0 5 1 (.slice A' xs.length c') xs.length (nums .u8 xs)) := by
      refine Stab.own (World.ownsRow.alloc (own_weaken ho (Nat.zero_le _)) _) (fun k hk hs2 => ?_)
      have h1 := own_base ho k hk
      have h2 := own_lt ho k hk
      rcases hS k hs2 with h | h <;> omega
    exact hst.imp (fun w h => C_own h)
  · rcases ho.2 with ⟨he, _⟩ | ⟨g, cap, cur, he, _, _, _, hm, _⟩
    · injection he with h1 h2 h3; omega
    · injection he with h1 h2 h3; simp only [maxLen] at hm; omega

end Go.Proofs.YtnjbflbalpedoaaDoor
