/- Contracts of chapter 1's sums: each returns what the plain functions (CrcP) say; memory that was there stays. -/
import Derived.Test.YtdlacjbicjhfgaaDoorProg
import Derived.Test.YtdlacjbicjhfgaaDoorCrcP
import Derived.Test.YtdlacjbicjhfgaaDoorBase2
import Derived.Laws.Unary
namespace Go.Proofs.YtdlacjbicjhfgaaDoor
open Go.RowKit Go.Proofs.YtdlacjbicjhfgaaDoorW.PrintWords

set_option maxHeartbeats 800000 in
set_option maxRecDepth 100000 in
theorem step_any (r b : Nat) (w : World) (hr : r < 4294967296) (hb : b < 256) :
    Calls Tryd.prog 37 #[.int .u32 r, .int .u8 b] w fun e w' => e = .returned (.int .u32 (crcStep r b : Nat)) ∧ w = w' := by
  have hx : bits .xor .u32 (r : Int) (b : Int) = ((r ^^^ b : Nat) : Int) := u32_xor_nat r b hr (by omega)
  have hxl : r ^^^ b < 4294967296 := Nat.xor_lt_two_pow (n := 32) hr (by omega)
  have HX := Lib.hid hx
  clear hx
  go_enter Tryd.func37, Tryd.ntmps37
  go_wp2
  go_loop [0, 10] (fun t i => ∃ k x : Nat, k ≤ 8 ∧ i = .int .i64 k ∧ t = .int .u32 x ∧ x < 4294967296 ∧ Hid (crcBits k (r ^^^ b) = x)) (fun _ i => 8 - (intOf i).toNat)
  case atStart => exact ⟨0, r ^^^ b, by omega, rfl, by rw [← HX.out], hxl, rfl⟩
  case round =>
    obtain ⟨k, x, hk, rfl, rfl, hxx, HK⟩ := hrel
    by_cases hlt : k < 8
    · have hb0 : decide ((k : Int) < 8) = true := decide_eq_true (by omega)
      have h1 : bits .and .u32 (x : Int) 1 = ((x % 2 : Nat) : Int) := by
        have := u32_and_nat x 1 hxx (by omega)
        rw [show ((1 : Nat) : Int) = 1 from rfl] at this
        rw [this, nat_mask1]
      have h2 : bits .xor .u32 ((x : Int) / 2) 3988292384 = ((x / 2 ^^^ 3988292384 : Nat) : Int) := by
        rw [show (x : Int) / 2 = ((x / 2 : Nat) : Int) by omega]
        exact u32_xor_nat (x / 2) 3988292384 (by omega) (by omega)
      have hc := crcBits_succ k (r ^^^ b)
      rw [HK.out] at hc
      have HC := Lib.hid hc
      have H2 := Lib.hid h2
      have hl := crcBit_lt x hxx
      clear hc h2 hb
      by_cases hodd : x % 2 = 1
      · rw [hodd] at h1
        go_wp2
        go_round
        case rel => exact ⟨k + 1, crcBit x, by omega, by go_num, by rw [H2.out]; unfold crcBit; rw [if_pos hodd], hl, HC.out⟩
        case measure => simp [intOf]; omega
      · have hev : x % 2 = 0 := by omega
        rw [hev] at h1
        go_wp2
        go_round
        case rel => exact ⟨k + 1, crcBit x, by omega, by go_num, by unfold crcBit; rw [if_neg hodd]; simp, hl, HC.out⟩
        case measure => simp [intOf]; omega
    · obtain rfl : k = 8 := by omega
      go_wp2
      go_ret
      exact ⟨by unfold crcStep; rw [HK.out]; rfl, rfl⟩

set_option maxHeartbeats 800000 in
set_option maxRecDepth 100000 in
theorem more_any (s : Nat) (A : Option Addr) (c : Nat) (xs : List Int) (w : World) (hs : s < 4294967296) (hx : Kd.C (Kd.int .u8) w A xs.length xs) (hby : ∀ x ∈ xs, 0 ≤ x ∧ x < 256) :
    Calls Tryd.prog 32 #[.int .u32 s, .slice A xs.length c] w fun e w' => e = .returned (.int .u32 (crcMore s xs : Nat)) ∧ w = w' := by
  have HN := Lib.hid (not32 s hs)
  have hxl : xs.length ≤ 9223372036854775807 := hx.2.1
  have HB := Lib.hid hby
  clear hby
  go_enter Tryd.func32, Tryd.ntmps32
  go_wp2
  go_loop [5, 12] (fun t i => ∃ k x : Nat, k ≤ xs.length ∧ i = .int .i64 k ∧ t = .int .u32 x ∧ x < 4294967296 ∧ Hid (crcFold (4294967295 - s) (xs.take k) = x)) (fun _ i => xs.length - (intOf i).toNat)
  case atStart => exact ⟨0, 4294967295 - s, by omega, rfl, by rw [← HN.out], by omega, rfl⟩
  case round =>
    obtain ⟨k, x, hk, rfl, rfl, hxx, HK⟩ := hrel
    by_cases hlt : k < xs.length
    · obtain ⟨a, rfl, hcell⟩ := C_nat hx hlt
      have hsn := crcFold_snoc (4294967295 - s) xs k hlt
      have hyb := HB.out (xs.getD k 0) (by rw [List.getD_eq_getElem?_getD, List.getElem?_eq_getElem hlt]; exact List.getElem_mem hlt)
      generalize xs.getD k 0 = y at hcell hsn hyb
      obtain ⟨n, rfl⟩ := Int.eq_ofNat_of_zero_le hyb.1
      rw [HK.out, Int.toNat_natCast] at hsn
      have HSN := Lib.hid hsn
      have hnl : n < 256 := by omega
      have hst := crcStep_lt x n hxx hnl
      clear hsn hyb
      go_wp2_with (go_at_call 37; refine (step_any x n _ hxx hnl).mono ?_; rintro e w' ⟨rfl, rfl⟩)
      go_round
      case rel => exact ⟨k + 1, crcStep x n, by omega, by go_num, rfl, hst, HSN.out⟩
      case measure => simp [intOf]; omega
    · obtain rfl : k = xs.length := by omega
      have hn2 := not32 x hxx
      have HN2 := Lib.hid hn2
      have hk2 := HK.out
      rw [List.take_length] at hk2
      have HK2 := Lib.hid hk2
      clear hn2 hk2
      go_wp2
      go_ret
      exact ⟨by unfold crcMore; rw [HK2.out, ← HN2.out]; rfl, rfl⟩

end Go.Proofs.YtdlacjbicjhfgaaDoor
