/- The contract of chapter 2's reader of texts. -/
import Derived.Test.YtnjbflbalpedoaaDoorRdW
namespace Go.Proofs.YtnjbflbalpedoaaDoor
open Go.RowKit Go.Proofs.YtnjbflbalpedoaaDoorW.PrintWords

set_option maxHeartbeats 1600000 in
set_option maxRecDepth 100000 in
theorem rText_any {L : List Nat} (ad : Nat → Addr) (S : Nat → Prop) (g : Nat) (bs : List Int) (err : Option Nat) (most : Int) (w : World) (hR : RdAt ad w S g bs err) (hE : EOk L ad w) (hG : NoG L ad S) (hL : ∀ c ∈ rdErrs, c ∈ L) :
    Calls Tryd.prog 11 #[.pointer (some ⟨g, 0, none⟩), .int .i64 most] w fun e w' => e = .returned (.string (strOfNums (rdText bs err most).1)) ∧
      RdAt ad w' S g (rdText bs err most).2.1 (rdText bs err most).2.2 ∧ Chg (· = g) w w' := by
  have hG1 := hG.one hR.mem
  obtain ⟨i0, hi, hz0, hz1, hz2⟩ := info_parts info5
  have hrr := rdInt_range bs err 0 2147483647
  rcases hri : rdInt bs err 0 2147483647 with ⟨n, r, e⟩
  have hT : rdText bs err most = rdTextG most (n, r, e) := by unfold rdText; rw [hri]
  rw [hri] at hrr
  have Hw := rInt_any ad S g bs err 0 2147483647 w hR hE hG hL
  rw [hri] at Hw
  dsimp only at Hw hrr
  have HT := Lib.hid hT
  have HW := Lib.hid Hw
  have HRR := Lib.hid hrr
  clear hR hri hT Hw hrr
  go_enter Tryd.func11, Tryd.ntmps11
  go_wp2_with fail
  refine HW.out.mono ?_
  clear HW
  rintro e' w1 ⟨rfl, hR1, hC1⟩
  have hE5 := ((hE.chg hG1 hC1) 105 (hL 105 (by decide))).1
  have hE1 := ((hE.chg hG1 hC1) 101 (hL 101 (by decide))).1
  simp only [errV, gnum] at hE1 hE5
  obtain ⟨hcell, hfr, hgl1⟩ := hR1.cells
  cases e with
  | some e0 =>
    simp only [errV] at hcell
    go_wp2
    go_ret
    rw [HT.out]
    exact ⟨rfl, hR1, hC1⟩
  | none =>
    simp only [errV] at hcell
    obtain ⟨hn0, hn1⟩ := HRR.out rfl
    have hS5 := hR1.setErr (some 105)
    have hS1 := hR1.setErr (some 101)
    simp only [errV] at hS5 hS1
    by_cases h1 : most < n
    · have hv : rdTextG most (n, r, none) = ([], r, some 105) := by simp only [rdTextG]; rw [if_pos h1]
      have HV := Lib.hid hv
      clear hv
      have hb : decide (most < n) = true := decide_eq_true h1
      go_wp2
      go_ret
      rw [HT.out, HV.out]
      exact ⟨rfl, hS5.1, hC1.same hS5.2⟩
    · have hb : decide (most < n) = false := decide_eq_false h1
      obtain ⟨A, c, hg, hh, hst, hby, hlc, hcm⟩ := id hR1
      have c0 : w1.cell? ⟨g, 0, none⟩ = some (.slice A r.length c) := by rw [blk_cell hh]; rfl
      have f0 := blk_frozen hh 0
      by_cases h2 : (r.length : Int) < n
      · have hv : rdTextG most (n, r, none) = ([], r, some 101) := by simp only [rdTextG]; rw [if_neg h1, if_pos h2]
        have HV := Lib.hid hv
        clear hv
        have hb2 : decide ((r.length : Int) < n) = true := decide_eq_true h2
        go_wp2
        go_ret
        rw [HT.out, HV.out]
        exact ⟨rfl, hS1.1, hC1.same hS1.2⟩
      · have hb2 : decide ((r.length : Int) < n) = false := decide_eq_false h2
        obtain ⟨m, rfl⟩ := Int.eq_ofNat_of_zero_le hn0
        obtain ⟨ht1, ht2, ht3⟩ := print_take_of (P := Tryd.prog) (Value.int .u8) 0 22 5 .i64 Tryd.underlying22 hi hz1 A c r (m : Int) hn0 (by omega) hlc
        obtain ⟨A', hd1, hd2, hd3⟩ := print_drop_of (P := Tryd.prog) (Value.int .u8) 0 22 5 .i64 Tryd.underlying22 hi hz1 A c r (m : Int) hn0 (by omega) hlc
        simp only [Int.toNat_natCast] at ht1 ht2 ht3 hd1 hd2 hd3
        have hCt : Kd.C (Kd.int .u8) w1 A (r.take m).length (r.take m) := Kd.C_of_reads (d := 0) (h1 := fun _ => rfl) (ht2 w1 (Kd.reads_of_C hst.now))
        have hcv := convert_C (P := Tryd.prog) hCt c 22 5 9 Tryd.underlying22 Tryd.underlying5 Tryd.underlying9
        have hlt : (r.take m).length = m := by rw [List.length_take]; omega
        have hld : (r.drop m).length = r.length - m := List.length_drop ..
        rw [hlt] at ht1 hcv
        rw [hld] at hd1
        have hP : ∀ v, v = Value.slice A' (r.drop m).length (c - m) → RdAt ad (w1.setCell ⟨g, 0, none⟩ v) S g (r.drop m) none ∧ Chg (· = g) w1 (w1.setCell ⟨g, 0, none⟩ v) := by
          rintro v rfl
          have hc : Chg (· = g) w1 (w1.setCell ⟨g, 0, none⟩ (Value.slice A' (r.drop m).length (c - m))) := Chg.setCell (p := ⟨g, 0, none⟩) (Chg.refl (· = g) w1) (fun _ => rfl) _
          exact ⟨⟨A', c - m, hg, by simpa [errV] using blk_set hh 0 (Value.slice A' (r.drop m).length (c - m)), (hst.next (hc.weaken (fun k hk _ => hk ▸ hg)) (fun k hk => .inl hk)).imp (fun w h => Kd.C_of_reads (d := 0) (h1 := fun _ => rfl) (hd2 w (Kd.reads_of_C h))), fun x hx => hby x (List.mem_of_mem_drop hx), hd3, by omega⟩, hc⟩
        have HP := Lib.hid hP
        have hv : rdTextG most ((m : Int), r, none) = (r.take m, r.drop m, none) := by simp only [rdTextG]; rw [if_neg h1, if_neg h2]; rfl
        have HV := Lib.hid hv
        clear hv
        clear hlt hld hst hby hCt ht2 ht3 hd2 hd3 hi hz0 hz1 hz2 hP
        go_wp2
        go_ret
        rw [HT.out, HV.out]
        have hq := HP.out _ rfl
        rw [List.length_drop] at hq
        exact ⟨rfl, hq.1, hC1.same hq.2⟩

end Go.Proofs.YtnjbflbalpedoaaDoor
