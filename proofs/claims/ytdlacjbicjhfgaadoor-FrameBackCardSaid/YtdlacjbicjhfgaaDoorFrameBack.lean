/- The walk of the statement FrameBack: for every kind, body, tail, cut and bit it returns true, and memory that was there stays. -/
import Derived.Test.YtdlacjbicjhfgaaDoorLaw3
import Derived.Test.YtdlacjbicjhfgaaDoorFrR
import Derived.Test.YtdlacjbicjhfgaaDoorFrM
import Derived.Test.YtdlacjbicjhfgaaDoorWorld
namespace Go.Proofs.YtdlacjbicjhfgaaDoor
open Go.RowKit Go.Proofs.YtdlacjbicjhfgaaDoorW.PrintWords

set_option maxHeartbeats 3200000 in
set_option maxRecDepth 100000 in
theorem frameBack_walk (ad : Nat → Addr) (kind : Int) (a1 : Option Addr) (cap1 : Nat) (l1 : List Int) (a2 : Option Addr) (cap2 : Nat) (l2 : List Int) (cut bit : Int) (w : World) (hE : EOk allE ad w) (hI : EInj allE ad)
    (hk : (Lit.int .u8 kind).wf = true)
    (hC1 : Kd.C (Kd.int .u8) w a1 l1.length l1) (hw1 : ∀ x ∈ l1, (Lit.int .u8 x).wf = true) (_ : l1.length * 1 ≤ 140737488351232) (hc1 : l1.length ≤ cap1) (hn1 : a1 = none → cap1 = 0)
    (hC2 : Kd.C (Kd.int .u8) w a2 l2.length l2) (hw2 : ∀ x ∈ l2, (Lit.int .u8 x).wf = true) (_ : l2.length * 1 ≤ 140737488351232) (hc2 : l2.length ≤ cap2) (hn2 : a2 = none → cap2 = 0)
    (hcu : (Lit.int .i64 cut).wf = true) (hbi : (Lit.int .i64 bit).wf = true) :
    Calls Tryd.prog 3 #[.int .u8 kind, .slice a1 l1.length cap1, .slice a2 l2.length cap2, .int .i64 cut, .int .i64 bit] w fun e w' => e = .returned (.bool true) ∧ Below w.heap.size w w' := by
  rename_i z1 z2
  have hk := wf_byte hk
  have HB1 := Lib.hid (fun n hn => wf_byte (hw1 n hn))
  have HB2 := Lib.hid (fun n hn => wf_byte (hw2 n hn))
  obtain ⟨hu0, hu1⟩ := wf_range hcu
  obtain ⟨hv0, hv1⟩ := wf_range hbi
  have HN1 := Lib.hid hn1
  have HN2 := Lib.hid hn2
  have HE := Lib.hid hE
  clear hw1 hw2 hn1 hn2 hcu hbi z1 z2 hE
  by_cases hg : ¬ (l1.length ≤ 300 ∧ l2.length ≤ 50)
  · go_enter Tryd.func3, Tryd.ntmps3
    go_wp2_with fail
    with_reducible refine (first3_any ad _ HE.out (by decide)).mono ?_
    rintro e w1 ⟨rfl, hB1⟩
    by_cases hg0 : l1.length ≤ 300
    · have b0 : decide ((300 : Int) < (l1.length : Int)) = false := decide_eq_false (by omega)
      have b1 : decide ((50 : Int) < (l2.length : Int)) = true := decide_eq_true (by omega)
      go_wp2
      go_ret
      exact ⟨rfl, hB1⟩
    · have b0 : decide ((300 : Int) < (l1.length : Int)) = true := decide_eq_true (by omega)
      go_wp2
      go_ret
      exact ⟨rfl, hB1⟩
  have g0 : l1.length ≤ 300 := by omega
  have g1 : l2.length ≤ 50 := by omega
  clear hg
  have b0 : decide ((300 : Int) < (l1.length : Int)) = false := decide_eq_false (by omega)
  have b1 : decide ((50 : Int) < (l2.length : Int)) = false := decide_eq_false (by omega)
  have HFR := Lib.hid (rdF_frame kind l1 l2 (by omega))
  have HFC := Lib.hid (fun j hj => rdF_cut kind l1 j (by omega) hj)
  have HFT := Lib.hid (fun p hp => rdF_turned kind l1 p hk HB1.out hp)
  have HFL := Lib.hid (frameB_len kind l1)
  have HFB := Lib.hid (frameB_bytes kind l1 hk HB1.out)
  go_enter Tryd.func3, Tryd.ntmps3
  go_wp2_with fail
  with_reducible refine (first3_any ad _ HE.out (by decide)).mono ?_
  rintro e w1 ⟨rfl, hB1⟩
  go_wp2_with fail
  with_reducible refine (fput_any ad kind a1 cap1 l1 w1 (HE.out.below hB1) (by decide) hk (Kd.C_below hC1 hB1) hc1 HN1.out HB1.out (by omega)).mono ?_
  rintro e w2 (⟨_, A2, c2, rfl, ho2, hb2⟩ | ⟨h, _⟩)
  rotate_left
  · omega
  rename_i zz
  clear zz
  have hB2 := below_then hB1 hB1.size hb2
  clear hb2
  generalize frameB kind l1 = S at *
  have hS : S.length ≤ 310 := by have := HFL.out; omega
  have hS4 : 10 ≤ S.length := by have := HFL.out; omega
  have b2 : ((S.length : Int) != (l1.length : Int) + 10) = false := by have := HFL.out; simp; omega
  have b3 : ((S.length : Int) == (l1.length : Int) + 10) = true := by have := HFL.out; simp; omega
  have hCS := C_own ho2
  have hcS := own_cap ho2
  have HNS := Lib.hid (own_nd ho2)
  clear ho2
  go_wp2_with fail
  with_reducible refine (refBytes_any A2 c2 S w2 hCS (by omega)).mono ?_
  rintro e w3 ⟨A3, c3, rfl, ho3, hb3⟩
  have hB3 := below_then hB2 hB2.size hb3
  have hown : ∀ k, (Value.slice A3 S.length c3).ownBlock = some k → w2.heap.size ≤ k := fun k hk => own_base ho3 k hk
  go_wp2_with (at_builtin; refine app_sl rfl _ _ 22 5 .u8 (.int .u8 0) 1 rfl Tryd.underlying22 infoC rfl (by decide) _ S.length _ a2 cap2 l2 rfl rfl HN2.out (own_weaken ho3 (Nat.zero_le _)) (Kd.C_below hC2 hB3) (by omega) ?_)
  rw [← nums_append, ← List.length_append]
  intro A4 c4 w4 ho4 hG
  have hb4 : Below w2.heap.size w2 w4 := hb3.trans (hG.below _ hb3.size hown)
  have hB4 := below_then hB2 hB2.size hb4
  have hfr := fread_any ad A4 c4 (S ++ l2) w4 (HE.out.below hB4) (by decide) (by decide) (by decide) (C_own ho4) (own_cap ho4) (own_nd ho4) (fun x hx => (List.mem_append.1 hx).elim (HFB.out x) (HB2.out x)) (by simp; omega)
  rw [HFR.out] at hfr
  simp only [List.length_append, frV, errV] at hfr
  have HFRD := Lib.hid hfr
  rw [List.length_append]
  clear hfr hown ho3 hb3 hG ho4 hB3
  go_wp2_with fail
  with_reducible refine HFRD.out.mono ?_
  rintro e w5 ⟨A5, c5, rfl, hC5, hb5⟩
  clear HFRD
  have hb5' := below_then hb4 hb4.size hb5
  have hB5 := below_then hB2 hB2.size hb5'
  -- cut off
  have hm : (0 : Int) < (S.length : Int) := by omega
  have hr := numberW_range cut (S.length : Int) hm
  have HNU := Lib.hid (number_any cut (S.length : Int) w5 hm (by omega) hu0 hu1)
  generalize numberW cut (S.length : Int) = j at *
  obtain ⟨j, rfl⟩ := Int.eq_ofNat_of_zero_le hr.1
  have hj : j < S.length := by omega
  clear hr
  go_wp2_with fail
  with_reducible refine HNU.out.mono ?_
  rintro e w6 ⟨rfl, rfl⟩
  clear HNU
  obtain ⟨i0, hi', hz0, hz1, hz2⟩ := info_parts infoC
  obtain ⟨p1, p2, p3⟩ := print_take_of (P := Tryd.prog) (Value.int .u8) 0 22 5 .i64 Tryd.underlying22 hi' hz1 A2 c2 S (j : Int) (by omega) (by omega) hcS
  rw [Int.toNat_natCast] at p1 p2 p3
  have cp := Kd.C_of_reads (d := 0) (h1 := fun _ => rfl) (p2 w5 (Kd.reads_of_C (Kd.C_below hCS hb5')))
  have hpl : (S.take j).length ≤ 310 := by simp; omega
  have hfc := fread_any ad A2 c2 (S.take j) w5 (HE.out.below hB5) (by decide) (by decide) (by decide) cp p3 HNS.out (take_bytes HFB.out j) (by omega)
  rw [HFC.out j (by have := HFL.out; omega)] at hfc
  generalize S.take j = Sj at *
  simp only [frV, errV, List.length_nil] at hfc
  have HFCD := Lib.hid hfc
  clear hfc p2 cp hpl
  go_wp2_with fail
  with_reducible refine HFCD.out.mono ?_
  rintro e w7 ⟨A7, c7, rfl, _, hb7⟩
  rename_i zz
  clear zz HFCD
  have hb7' := below_then hb5' hb5'.size hb7
  have hB7 := below_then hB2 hB2.size hb7'
  replace hC5 := Kd.C_below hC5 hb7
  -- a bit turned
  have hm8 : (0 : Int) < 8 * (S.length : Int) := by omega
  have hr := numberW_range bit (8 * (S.length : Int)) hm8
  have HNU := Lib.hid (number_any bit (8 * (S.length : Int)) w7 hm8 (by omega) hv0 hv1)
  generalize numberW bit (8 * (S.length : Int)) = p at *
  obtain ⟨p, rfl⟩ := Int.eq_ofNat_of_zero_le hr.1
  have hp : p < 8 * S.length := by omega
  clear hr
  go_wp2_with fail
  with_reducible refine HNU.out.mono ?_
  rintro e w8 ⟨rfl, rfl⟩
  clear HNU
  go_wp2_with fail
  with_reducible refine (refBytes_any A2 c2 S w7 (Kd.C_below hCS hb7') (by omega)).mono ?_
  rintro e w8 ⟨A8, c8, rfl, ho, hb8⟩
  obtain ⟨g, rfl⟩ := own_some ho (by omega)
  have hgl := ho.lt g rfl
  have hb8' := below_then hb7' hb7'.size hb8
  have hk8 : p / 8 < S.length := by omega
  obtain ⟨hx0, hx1⟩ := HFB.out (S.getD (p / 8) 0) (by rw [List.getD_eq_getElem?_getD, List.getElem?_eq_getElem hk8]; exact List.getElem_mem hk8)
  obtain ⟨x, hxe⟩ := Int.eq_ofNat_of_zero_le hx0
  have hcx : w8.cell? ⟨g, p / 8, none⟩ = some (.int .u8 (x : Int)) := by
    rw [ho.cellAt _ (by omega), ← hxe]
    simp [nums, List.getD, List.getElem?_eq_getElem hk8]
  have hfx := ho.frozenAt (p / 8)
  have hfl : flipAt S p = S.set (p / 8) ((x ^^^ 2 ^ (p % 8) : Nat) : Int) := by
    show S.set _ _ = _
    rw [hxe, Int.toNat_natCast]
  have hxl : x < 256 := by omega
  have hp2 := pow8_cast p
  have hp3 : 2 ^ (p % 8) < 256 := Nat.pow_lt_pow_right (m := p % 8) (n := 8) (by omega) (by omega)
  have hxr := u8_xor_nat x (2 ^ (p % 8)) hxl hp3
  rw [← hp2] at hxr
  have HXR := Lib.hid hxr
  have hst := (ho.stored (p / 8) (.int .u8 ((x ^^^ 2 ^ (p % 8) : Nat) : Int))).1
  rw [← nums_set, ← hfl] at hst
  rw [← hxr] at hst
  have hsc : Below w7.heap.size w7 (w8.setCell ⟨g, p / 8, none⟩ (.int .u8 (bits .xor .u8 (x : Int) ((2 : Int) ^ (p % 8) % 256)))) := hb8.setCell (by simp; omega) _
  have HSC := Lib.hid hsc
  have HST := Lib.hid hst
  have hfll := flipAt_len S p
  have HFLB := Lib.hid (flipAt_bytes S p HFB.out)
  have HFT2 := Lib.hid (HFT.out p (by have := HFL.out; omega))
  generalize flipAt S p = D at *
  have HFLL := Lib.hid hfll
  clear hp2 hxr hp3 hxe hx0 hx1 hfl ho hst hsc hfll hb8' hb8
  go_wp2_with fail
  have hb9' := below_then hb7' hb7'.size HSC.out
  have hB9 := below_then hB2 hB2.size hb9'
  have hcD := own_cap HST.out
  have hndD := own_nd HST.out
  have hCD := C_own HST.out
  have hC5' := Kd.C_below hC5 HSC.out
  clear HXR HSC HST
  generalize w8.setCell ⟨g, p / 8, none⟩ (.int .u8 (bits .xor .u8 (x : Int) ((2 : Int) ^ (p % 8) % 256))) = w9 at *
  have hfd := fread_any ad (some ⟨g, 0, none⟩) c8 D w9 (HE.out.below hB9) (by decide) (by decide) (by decide) hCD (by rw [HFLL.out]; exact hcD) hndD HFLB.out (by rw [HFLL.out]; omega)
  rw [HFLL.out] at hfd
  obtain ⟨r, hr⟩ : ∃ r, r = rdF D := ⟨_, rfl⟩
  rw [← hr] at hfd HFT2
  obtain ⟨r1, r2, r3, r4⟩ := r
  simp only [frV] at hfd
  have HFD := Lib.hid hfd
  clear hfd hr hCD hcD hndD
  with_reducible refine HFD.out.mono ?_
  rintro e w10 ⟨A10, c10, rfl, _, hb10⟩
  rename_i zz
  clear zz HFD
  have hb10' := below_then hb9' hb9'.size hb10
  have hB10 := below_then hB9 hB9.size hb10
  have hC10 := Kd.C_below hC5' hb10
  clear hb9' hB9 hC5 hC5'
  go_wp2_with (at_make; refine wpList_make_full _ rfl _ _ 22 rfl w10.heap.size 5 i0 (.int .u8 0) 1 Tryd.underlying22 hi' hz0 hz1 .i64 .i64 _ _ 4001 rfl rfl rfl rfl (by rw [hz2]; omega) (by unfold maxLen; omega) (Nat.le_refl _) ?_)
  intro w11 ho11 hg11
  replace ho11 : w11.ownsRow w10.heap.size 5 1 (.slice (some ⟨w10.heap.size, 0, none⟩) 4001 4001) 4001 (nums .u8 (noughts 4001)) := by
    rw [← nums_noughts]; exact ho11
  have hb11 : Below w10.heap.size w10 w11 := (Chg.grown (Chg.refl (fun _ => False) w10) hg11 (fun k hk => by cases hk)).below _ (Nat.le_refl _) (fun _ _ h => h)
  have hB11 := below_then hB10 hB10.size hb11
  have hnl : (noughts 4001).length = 4001 := by simp [noughts]
  have hnb : ∀ x ∈ noughts 4001, (0 : Int) ≤ x ∧ x < 256 := by intro x hx; have := List.eq_of_mem_replicate hx; omega
  generalize noughts 4001 = Z at *
  have hCZ := C_own ho11
  have hfp := fput_any ad kind (some ⟨w10.heap.size, 0, none⟩) 4001 Z w11 (HE.out.below hB11) (by decide) hk hCZ (by omega) (fun h => by cases h) hnb (by omega)
  simp only [hnl, errV] at hfp
  have HFP := Lib.hid hfp
  have hC11 := Kd.C_below hC10 hb11
  clear hfp hCZ hnb ho11 hg11 hnl hC10
  go_wp2_with fail
  with_reducible refine HFP.out.mono ?_
  rintro e w12 (⟨h, _⟩ | ⟨_, rfl, hb12⟩)
  · omega
  rename_i zz
  clear zz HFP
  have hB12 := below_then hB11 hB11.size hb12
  have hC12 := Kd.C_below hC11 hb12
  have b4 : ((l1.length : Int) + 10 == (S.length : Int)) = true := by have := HFL.out; simp; omega
  have HSM := same_any A5 a1 c5 cap1 l1 l1 w12 hC12 (Kd.C_below hC1 hB12)
  rw [decide_eq_true rfl] at HSM
  have HSM' := Lib.hid HSM
  have HB12 := Lib.hid hB12
  clear HSM hC12 hC11 hB12 hB11 hB10 hb10' hb12 hb11 hb10
  cases r4 with
  | some c4 =>
    simp only [errV]
    go_wp2_with fail
    with_reducible refine HSM'.out.mono ?_
    rintro e w13 ⟨rfl, hD13⟩
    have hB13 := Drawn.below HB12.out hD13
    go_wp2_with fail
    with_reducible refine (see_is_lit ad 101 101 w13 (HE.out.below hB13) hI (by decide)).mono ?_
    rintro e w14 ⟨rfl, hb14⟩
    have hB14 := below_then hB13 hB13.size hb14
    rw [decide_eq_true (show ((101 : Nat) : Int) = 101 from rfl)]
    go_wp2_with fail
    with_reducible refine (see_is_lit ad 105 105 w14 (HE.out.below hB14) hI (by decide)).mono ?_
    rintro e w15 ⟨rfl, hb15⟩
    have hB15 := below_then hB14 hB14.size hb15
    rw [decide_eq_true (show ((105 : Nat) : Int) = 105 from rfl)]
    go_wp2
    go_ret
    exact ⟨rfl, hB15⟩
  | none =>
    have b5 : ((r3 : Int) != (S.length : Int)) = true := by
      have h1 := HFT2.out
      have h2 := HFL.out
      simp at h1
      simp
      omega
    simp only [errV]
    go_wp2_with fail
    with_reducible refine HSM'.out.mono ?_
    rintro e w13 ⟨rfl, hD13⟩
    have hB13 := Drawn.below HB12.out hD13
    go_wp2_with fail
    with_reducible refine (see_is_lit ad 101 101 w13 (HE.out.below hB13) hI (by decide)).mono ?_
    rintro e w14 ⟨rfl, hb14⟩
    have hB14 := below_then hB13 hB13.size hb14
    rw [decide_eq_true (show ((101 : Nat) : Int) = 101 from rfl)]
    go_wp2_with fail
    with_reducible refine (see_is_lit ad 105 105 w14 (HE.out.below hB14) hI (by decide)).mono ?_
    rintro e w15 ⟨rfl, hb15⟩
    have hB15 := below_then hB14 hB14.size hb15
    rw [decide_eq_true (show ((105 : Nat) : Int) = 105 from rfl)]
    go_wp2
    go_ret
    exact ⟨rfl, hB15⟩

end Go.Proofs.YtdlacjbicjhfgaaDoor
