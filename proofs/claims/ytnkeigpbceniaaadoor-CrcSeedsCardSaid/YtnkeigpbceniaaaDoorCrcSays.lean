/- The walk of the statement CrcSays: for every bytes and seeds it returns true, and memory that was there stays. -/
import Derived.Test.YtnkeigpbceniaaaDoorLaw1
import Derived.Test.YtnkeigpbceniaaaDoorCrcO
import Derived.Test.YtnkeigpbceniaaaDoorCrcRow
namespace Go.Proofs.YtnkeigpbceniaaaDoor
open Go.RowKit Go.Proofs.YtnkeigpbceniaaaDoorW.PrintWords

theorem wf_u32 {n : Int} (h : (Lit.int .u32 n).wf = true) : 0 ≤ n ∧ n < 4294967296 := by
  simp [Lit.wf, IntKind.min, IntKind.max, IntKind.signed, IntKind.bits] at h
  omega
theorem openB_bytes (b : List Int) (s : Nat) (h : ∀ x ∈ b, 0 ≤ x ∧ x < 256) : ∀ x ∈ (openB b s).1, 0 ≤ x ∧ x < 256 := by
  unfold openB
  split
  · simp
  · split
    · exact fun x hx => h x (List.mem_of_mem_take hx)
    · simp
theorem openB_code (b : List Int) (s : Nat) : ∀ c, (openB b s).2 = some c → c ∈ allE := by
  unfold openB
  intro c
  split
  · simp; rintro rfl; decide
  · split
    · simp
    · simp; rintro rfl; decide

set_option maxHeartbeats 3200000 in
set_option maxRecDepth 100000 in
theorem crcSays_walk (ad : Nat → Addr) (a0 : Option Addr) (cap0 : Nat) (l0 : List Int) (a1 : Option Addr) (cap1 : Nat) (l1 : List Int) (s2 s3 : Int) (w : World) (hE : EOk allE ad w) (hI : EInj allE ad)
    (hC0 : Kd.C (Kd.int .u8) w a0 l0.length l0) (hw0 : ∀ x ∈ l0, (Lit.int .u8 x).wf = true) (_ : l0.length * 1 ≤ 140737488351232) (hc0 : l0.length ≤ cap0) (hn0 : a0 = none → cap0 = 0)
    (hC1 : Kd.C (Kd.int .u8) w a1 l1.length l1) (hw1 : ∀ x ∈ l1, (Lit.int .u8 x).wf = true) (_ : l1.length * 1 ≤ 140737488351232) (hc1 : l1.length ≤ cap1) (hn1 : a1 = none → cap1 = 0)
    (h2 : (Lit.int .u32 s2).wf = true) (h3 : (Lit.int .u32 s3).wf = true) :
    Calls Tryd.prog 3 #[.slice a0 l0.length cap0, .slice a1 l1.length cap1, .int .u32 s2, .int .u32 s3] w fun e w' => e = .returned (.bool true) ∧ Below w.heap.size w w' := by
  rename_i z1 z2
  clear z1 z2
  have HB0 := Lib.hid (fun n hn => wf_byte (hw0 n hn))
  have HB1 := Lib.hid (fun n hn => wf_byte (hw1 n hn))
  obtain ⟨h20, h21⟩ := wf_u32 h2
  obtain ⟨h30, h31⟩ := wf_u32 h3
  obtain ⟨s, rfl⟩ := Int.eq_ofNat_of_zero_le h20
  obtain ⟨t, rfl⟩ := Int.eq_ofNat_of_zero_le h30
  have hs : s < 4294967296 := by omega
  have ht : t < 4294967296 := by omega
  have HN0 := Lib.hid hn0
  have HN1 := Lib.hid hn1
  have HE := Lib.hid hE
  clear hw0 hw1 h2 h3 hn0 hn1 h20 h21 h30 h31 hE
  by_cases hg : ¬ (l0.length ≤ 300 ∧ l1.length ≤ 300)
  · go_enter Tryd.func3, Tryd.ntmps3
    go_wp2_with fail
    refine (first1_any _).mono ?_
    rintro e w1 ⟨rfl, hB1⟩
    by_cases hg0 : l0.length ≤ 300
    · have b0 : decide ((300 : Int) < (l0.length : Int)) = false := decide_eq_false (by omega)
      have b1 : decide ((300 : Int) < (l1.length : Int)) = true := decide_eq_true (by omega)
      go_wp2
      go_ret
      exact ⟨rfl, hB1⟩
    · have b0 : decide ((300 : Int) < (l0.length : Int)) = true := decide_eq_true (by omega)
      go_wp2
      go_ret
      exact ⟨rfl, hB1⟩
  have g0 : l0.length ≤ 300 := by omega
  have g1 : l1.length ≤ 300 := by omega
  clear hg
  have b0 : decide ((300 : Int) < (l0.length : Int)) = false := decide_eq_false (by omega)
  have b1 : decide ((300 : Int) < (l1.length : Int)) = false := decide_eq_false (by omega)
  go_enter Tryd.func3, Tryd.ntmps3
  go_wp2_with fail
  with_reducible refine (first1_any _).mono ?_
  rintro e w1 ⟨rfl, hB1⟩
  go_wp2_with fail
  -- the numbers
  have hcat : crcMore (crcMore 0 l0) l1 = crcMore 0 (l0 ++ l1) := (crcMore_append 0 l0 l1 (by omega) HB0.out).symm
  have hL0 := crcMore_lt 0 l0
  have HCB : Hid (∀ x ∈ l0 ++ l1, 0 ≤ x ∧ x < 256) := fun x hx => (List.mem_append.1 hx).elim (HB0.out x) (HB1.out x)
  have HSB := Lib.hid (sealB_bytes l0 s HB0.out)
  have HSL := Lib.hid (sealB_len l0 s)
  have HO1B := Lib.hid (openB_bytes l1 s HB1.out)
  have HO1C := Lib.hid (openB_code l1 s)
  have HO2B := Lib.hid (openB_bytes (sealB l0 s) t HSB.out)
  have HO2C := Lib.hid (openB_code (sealB l0 s) t)
  with_reducible refine (refBytes_any a0 cap0 l0 _ (Kd.C_below hC0 hB1) (by omega)).mono ?_
  rintro e w2 ⟨A2, c2, rfl, ho2, hb2⟩
  have hB2 := below_then hB1 hB1.size hb2
  have hown : ∀ k, (Value.slice A2 l0.length c2).ownBlock = some k → w.heap.size ≤ k := fun k hk => Nat.le_trans hB1.size (own_base ho2 k hk)
  clear hb2
  go_wp2_with (at_builtin; refine app_sl rfl _ _ 22 5 .u8 (.int .u8 0) 1 rfl Tryd.underlying22 infoC rfl (by decide) _ l0.length _ a1 cap1 l1 rfl rfl HN1.out (own_weaken ho2 (Nat.zero_le _)) (Kd.C_below hC1 hB2) (by omega) ?_)
  rw [← nums_append, ← List.length_append]
  intro A3 c3 w3 ho3 hG3
  generalize hl2 : l0 ++ l1 = l2 at *
  have HL2 := Lib.hid hl2
  clear hl2
  have hB3 : Below w.heap.size w w3 := hB2.trans (hG3.below _ hB2.size hown)
  have hCa3 := C_own ho3
  have hca3 := own_cap ho3
  clear ho2 ho3 hG3 hown hB1
  go_wp2_with fail
  with_reducible refine (open_any ad a1 cap1 l1 s w3 (HE.out.below hB3) (by decide) (by decide) (Kd.C_below hC1 hB3) hc1 HN1.out HB1.out hs (by omega)).mono ?_
  rintro e w4 ⟨A4, c4, rfl, hC4, hb4⟩
  have hB4 := below_then hB3 hB3.size hb4
  have hCa4 := Kd.C_below hCa3 hb4
  clear hCa3 hb4
  go_wp2_with fail
  with_reducible refine (ropen_any a1 cap1 l1 s w4 (Kd.C_below hC1 hB4) hc1 HN1.out HB1.out hs (by omega)).mono ?_
  rintro e w5 ⟨A5, c5, rfl, hC5, hb5⟩
  have hB5 := below_then hB4 hB4.size hb5
  replace hCa4 := Kd.C_below hCa4 hb5
  replace hC4 := Kd.C_below hC4 hb5
  clear hb5
  generalize openB l1 s = o1 at *
  go_wp2_with fail
  with_reducible refine (seal_any a0 cap0 l0 s w5 (Kd.C_below hC0 hB5) hc0 HN0.out HB0.out hs (by omega)).mono ?_
  rintro e w6 ⟨A6, c6, rfl, ho6, hb6⟩
  have hB6 := below_then hB5 hB5.size hb6
  replace hCa4 := Kd.C_below hCa4 hb6
  replace hC4 := Kd.C_below hC4 hb6
  replace hC5 := Kd.C_below hC5 hb6
  clear hb6
  go_wp2_with fail
  with_reducible refine (open_any ad A6 c6 (sealB l0 s) t w6 (HE.out.below hB6) (by decide) (by decide) (C_own ho6) (own_cap ho6) (own_nd ho6) HSB.out ht (by rw [HSL.out]; omega)).mono ?_
  rintro e w7 ⟨A7, c7, rfl, hC7, hb7⟩
  have hB7 := below_then hB6 hB6.size hb7
  replace hCa4 := Kd.C_below hCa4 hb7
  replace hC4 := Kd.C_below hC4 hb7
  replace hC5 := Kd.C_below hC5 hb7
  clear hb7 ho6
  go_wp2_with fail
  with_reducible refine (rseal_any a0 cap0 l0 s w7 (Kd.C_below hC0 hB7) HN0.out HB0.out hs (by omega)).mono ?_
  rintro e w8 ⟨A8, c8, rfl, ho8, hc8, hn8, hb8⟩
  have hB8 := below_then hB7 hB7.size hb8
  replace hCa4 := Kd.C_below hCa4 hb8
  replace hC4 := Kd.C_below hC4 hb8
  replace hC5 := Kd.C_below hC5 hb8
  replace hC7 := Kd.C_below hC7 hb8
  have HN8 := Lib.hid hn8
  clear hb8 hn8
  go_wp2_with fail
  with_reducible refine (ropen_any A8 c8 (sealB l0 s) t w8 ho8 hc8 HN8.out HSB.out ht (by rw [HSL.out]; omega)).mono ?_
  rintro e w9 ⟨A9, c9, rfl, hC9, hb9⟩
  have hB9 := below_then hB8 hB8.size hb9
  replace hCa4 := Kd.C_below hCa4 hb9
  replace hC4 := Kd.C_below hC4 hb9
  replace hC5 := Kd.C_below hC5 hb9
  replace hC7 := Kd.C_below hC7 hb9
  clear hb9 ho8 hc8 HN8
  generalize openB (sealB l0 s) t = o2 at *
  clear hB2 hB3 hB4 hB5 hB6 hB7 hB8
  have hx0 := Kd.C_below hC0 hB9
  have hx1 := Kd.C_below hC1 hB9
  have hs9 := hB9.size
  -- the last row of looks
  have HCAT := Lib.hid hcat
  clear hcat
  go_wp2_with fail
  have hst := sumTwo_any a0 a1 cap0 cap1 l0 l1 w9 hx0 hc0 HB0.out hx1 hc1 HB1.out
  rw [HL2.out] at hst
  with_reducible refine hst.mono ?_
  clear hst
  rintro e w10 ⟨rfl, hw10⟩
  have hb10 : Below w9.heap.size w9 w10 := by rw [← hw10]; exact (Below.refl _ _).alloc (Nat.le_refl _) _
  have hB10 := below_then hB9 hs9 hb10
  clear hw10
  go_wp2_with fail
  with_reducible refine (rsum_any A3 c3 l2 w10 (Kd.C_below hCa4 hb10) HCB.out).mono ?_
  rintro e w11 ⟨rfl, rfl⟩
  go_wp2_with fail
  with_reducible refine (sumOne_any a0 cap0 l0 w10 (Kd.C_below hC0 hB10) hc0 HB0.out).mono ?_
  rintro e w11 ⟨rfl, hw11⟩
  have hb11 : Below w9.heap.size w9 w11 := by rw [← hw11]; exact hb10.alloc hb10.size _
  have hB11 := below_then hB9 hs9 hb11
  clear hw11
  go_wp2_with fail
  with_reducible refine (more_any (crcMore 0 l0) a1 cap1 l1 w11 hL0 (Kd.C_below hC1 hB11) HB1.out).mono ?_
  rintro e w12 ⟨rfl, rfl⟩
  rw [HCAT.out]
  go_wp2_with fail
  with_reducible refine (sumOne_any A3 c3 l2 w11 (Kd.C_below hCa4 hb11) hca3 HCB.out).mono ?_
  rintro e w12 ⟨rfl, hw12⟩
  have hb12 : Below w9.heap.size w9 w12 := by rw [← hw12]; exact hb11.alloc hb11.size _
  have hB12 := below_then hB9 hs9 hb12
  clear hw12
  go_wp2_with fail
  with_reducible refine (seal_any a0 cap0 l0 s w12 (Kd.C_below hC0 hB12) hc0 HN0.out HB0.out hs (by omega)).mono ?_
  rintro e w13 ⟨A13, c13, rfl, ho13, hb13⟩
  have hB13 := below_then hB12 hB12.size hb13
  go_wp2_with fail
  with_reducible refine (rseal_any a0 cap0 l0 s w13 (Kd.C_below hC0 hB13) HN0.out HB0.out hs (by omega)).mono ?_
  rintro e w14 ⟨A14, c14, rfl, ho14, hc14, hn14, hb14⟩
  have hB14 := below_then hB13 hB13.size hb14
  have hb14' := below_then hb12 hb12.size (below_then hb13 hb13.size hb14)
  clear hn14
  have hC13 := Kd.C_below (C_own ho13) hb14
  go_wp2_with fail
  with_reducible refine (same_any A13 A14 c13 c14 (sealB l0 s) (sealB l0 s) w14 hC13 ho14).mono ?_
  rintro e w15 ⟨rfl, hD15⟩
  have hB15 := Drawn.below hB14 hD15
  have hb15 := Drawn.below hb14' hD15
  rw [decide_eq_true rfl]
  go_wp2_with fail
  with_reducible refine (same_any A4 A5 c4 c5 o1.1 o1.1 w15 (Kd.C_below hC4 hb15) (Kd.C_below hC5 hb15)).mono ?_
  rintro e w16 ⟨rfl, hD16⟩
  have hB16 := Drawn.below hB15 hD16
  have hb16 := Drawn.below hb15 hD16
  rw [decide_eq_true rfl]
  go_wp2_with fail
  with_reducible refine (see_is_any ad o1.2 (codeOf o1.2) w16 (HE.out.below hB16) hI HO1C.out).mono ?_
  rintro e w17 ⟨rfl, hb17⟩
  have hB17 := below_then hB16 hB16.size hb17
  replace hb17 := below_then hb16 hb16.size hb17
  rw [decide_eq_true rfl]
  go_wp2_with fail
  with_reducible refine (same_any A7 A9 c7 c9 o2.1 o2.1 w17 (Kd.C_below hC7 hb17) (Kd.C_below hC9 hb17)).mono ?_
  rintro e w18 ⟨rfl, hD18⟩
  have hB18 := Drawn.below hB17 hD18
  rw [decide_eq_true rfl]
  go_wp2_with fail
  with_reducible refine (see_is_any ad o2.2 (codeOf o2.2) w18 (HE.out.below hB18) hI HO2C.out).mono ?_
  rintro e w19 ⟨rfl, hb19⟩
  have hB19 := below_then hB18 hB18.size hb19
  rw [decide_eq_true rfl]
  go_wp2
  go_ret
  exact ⟨rfl, hB19⟩

end Go.Proofs.YtnkeigpbceniaaaDoor
