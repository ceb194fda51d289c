/- The walk of the statement CrcSeeds: for every bytes, seed and bits it returns true, and memory that was there stays. -/
import Derived.Test.YtnkeigpbceniaaaDoorLaw1
import Derived.Test.YtnkeigpbceniaaaDoorCrcM
import Derived.Test.YtnkeigpbceniaaaDoorCrcSays
namespace Go.Proofs.YtnkeigpbceniaaaDoor
open Go.RowKit Go.Proofs.YtnkeigpbceniaaaDoorW.PrintWords

theorem pow_cast (n : Nat) : ((2 : Int) ^ n % 4294967296) = ((2 ^ n % 4294967296 : Nat) : Int) := by
  rw [Int.natCast_emod, Int.natCast_pow]
  rfl
theorem pow_lt32 (n : Nat) : 2 ^ n % 4294967296 < 4294967296 := Nat.mod_lt _ (by omega)

set_option maxHeartbeats 3200000 in
set_option maxRecDepth 100000 in
theorem crcSeeds_walk (ad : Nat → Addr) (a0 : Option Addr) (cap0 : Nat) (l0 : List Int) (s1 i k l : Int) (w : World) (hE : EOk [101, 103] ad w) (_ : EInj [101, 103] ad)
    (hC0 : Kd.C (Kd.int .u8) w a0 l0.length l0) (hw0 : ∀ x ∈ l0, (Lit.int .u8 x).wf = true) (_ : l0.length * 1 ≤ 140737488351232) (hc0 : l0.length ≤ cap0) (hn0 : a0 = none → cap0 = 0)
    (h1 : (Lit.int .u32 s1).wf = true) (_ : (Lit.int .i64 i).wf = true) (_ : (Lit.int .i64 k).wf = true) (_ : (Lit.int .i64 l).wf = true) :
    Calls Tryd.prog 5 #[.slice a0 l0.length cap0, .int .u32 s1, .int .i64 i, .int .i64 k, .int .i64 l] w fun e w' => e = .returned (.bool true) ∧ Below w.heap.size w w' := by
  rename_i zI z1 wi wk wl
  have HB0 := Lib.hid (fun n hn => wf_byte (hw0 n hn))
  obtain ⟨h20, h21⟩ := wf_u32 h1
  obtain ⟨s, rfl⟩ := Int.eq_ofNat_of_zero_le h20
  have hs : s < 4294967296 := by omega
  have HN0 := Lib.hid hn0
  have HE := Lib.hid hE
  clear hw0 h1 hn0 h20 h21 hE z1
  by_cases hg : ¬ (l0.length ≤ 300)
  · have b0 : decide ((300 : Int) < (l0.length : Int)) = true := decide_eq_true (by omega)
    go_enter Tryd.func5, Tryd.ntmps5
    go_wp2_with fail
    with_reducible refine (first1_any _).mono ?_
    rintro e w1 ⟨rfl, hB1⟩
    go_wp2
    go_ret
    exact ⟨rfl, hB1⟩
  have g0 : l0.length ≤ 300 := by omega
  clear hg
  have b0 : decide ((300 : Int) < (l0.length : Int)) = false := decide_eq_false (by omega)
  go_enter Tryd.func5, Tryd.ntmps5
  go_wp2_with fail
  with_reducible refine (first1_any _).mono ?_
  rintro e w1 ⟨rfl, hB1⟩
  go_wp2_with fail
  have m1 := pow_lt32 (min (IntKind.u64.wrap (bits BinOp.and IntKind.i64 i 31)).toNat 32)
  have m2 := pow_lt32 (min (IntKind.u64.wrap (bits BinOp.and IntKind.i64 k 31)).toNat 32)
  have m3 := pow_lt32 (min (IntKind.u64.wrap (bits BinOp.and IntKind.i64 l 31)).toNat 32)
  simp only [pow_cast]
  generalize 2 ^ min (IntKind.u64.wrap (bits BinOp.and IntKind.i64 i 31)).toNat 32 % 4294967296 = q1 at *
  generalize 2 ^ min (IntKind.u64.wrap (bits BinOp.and IntKind.i64 k 31)).toNat 32 % 4294967296 = q2 at *
  generalize 2 ^ min (IntKind.u64.wrap (bits BinOp.and IntKind.i64 l 31)).toNat 32 % 4294967296 = q3 at *
  have x1 := u32_xor_nat s q1 hs m1
  have l1 := Nat.xor_lt_two_pow (n := 32) hs m1
  have x2 := u32_xor_nat (s ^^^ q1) q2 l1 m2
  have l2 := Nat.xor_lt_two_pow (n := 32) l1 m2
  have x3 := u32_xor_nat (s ^^^ q1 ^^^ q2) q3 l2 m3
  have l3 := Nat.xor_lt_two_pow (n := 32) l2 m3
  rw [x1, x2, x3]
  generalize s ^^^ q1 ^^^ q2 ^^^ q3 = t at *
  have ht : t < 4294967296 := l3
  clear x1 x2 x3 l1 l2 l3 m1 m2 m3
  generalize s ^^^ q1 ^^^ q2 = y2
  generalize s ^^^ q1 = y1
  have HSB := Lib.hid (sealB_bytes l0 s HB0.out)
  have hsl := sealB_len l0 s
  have HSL := Lib.hid hsl
  have HO := Lib.hid (openB_seed l0 s t HB0.out hs ht)
  have htk : (sealB l0 s).take l0.length = l0 := by simp [sealB]
  have HTK := Lib.hid htk
  clear htk
  with_reducible refine (seal_any a0 cap0 l0 s _ (Kd.C_below hC0 hB1) hc0 HN0.out HB0.out hs (by omega)).mono ?_
  rintro e w2 ⟨A2, c2, rfl, ho2, hb2⟩
  have hB2 := below_then hB1 hB1.size hb2
  clear hb2
  generalize sealB l0 s = S at *
  have hl4 : (S.length : Int) = (l0.length : Int) + 4 := by omega
  have b1 : ((S.length : Int) != (l0.length : Int) + 4) = false := by simp [hl4]
  have HL4 := Lib.hid hl4
  clear hl4 hsl
  go_wp2_with fail
  with_reducible refine (open_any ad A2 c2 S t w2 (HE.out.below hB2) (by decide) (by decide) (C_own ho2) (own_cap ho2) (own_nd ho2) HSB.out ht (by rw [HSL.out]; omega)).mono ?_
  rintro e w3 ⟨A3, c3, rfl, hC3, hb3⟩
  have hB3 := below_then hB2 hB2.size hb3
  have hC2 := Kd.C_below (C_own ho2) hb3
  have hc2 := own_cap ho2
  clear hC3 hb3 ho2
  generalize openB S t = o at *
  obtain ⟨i0, hi', hz0, hz1, hz2⟩ := info_parts infoC
  obtain ⟨p1, p2, p3⟩ := print_take_of (P := Tryd.prog) (Value.int .u8) 0 22 5 .i64 Tryd.underlying22 hi' hz1 A2 c2 S (l0.length : Int) (by omega) (by rw [HSL.out]; omega) hc2
  rw [Int.toNat_natCast, HTK.out] at p1 p2
  have cp := Kd.C_of_reads (d := 0) (h1 := fun _ => rfl) (p2 w3 (Kd.reads_of_C hC2))
  have h0 := Kd.C_below hC0 hB3
  have HSM := Lib.hid (fun W (hW : Below w3.heap.size w3 W) => same_any A2 a0 c2 cap0 l0 l0 W (Kd.C_below cp hW) (Kd.C_below h0 hW))
  clear p2 p3 cp h0 hC2
  obtain ⟨o1, o2⟩ := o
  cases o2 with
  | none =>
    have hts : t = s := HO.out.1 rfl
    subst hts
    simp only [errV]
    go_wp2_with fail
    with_reducible refine (HSM.out _ (Below.refl _ _)).mono ?_
    rintro e w4 ⟨rfl, hD⟩
    go_wp2
    go_ret
    exact ⟨by simp, Drawn.below hB3 hD⟩
  | some c =>
    have hts : ¬ t = s := fun h => by have := HO.out.2 h; cases this
    have b3 : ((t : Int) == (s : Int)) = false := by simp; omega
    simp only [errV]
    go_wp2_with fail
    with_reducible refine (HSM.out _ (Below.refl _ _)).mono ?_
    rintro e w4 ⟨rfl, hD⟩
    go_wp2
    go_ret
    exact ⟨by simp, Drawn.below hB3 hD⟩

end Go.Proofs.YtnkeigpbceniaaaDoor
