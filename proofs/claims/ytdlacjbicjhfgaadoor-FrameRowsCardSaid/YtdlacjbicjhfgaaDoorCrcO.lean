/- Contracts of bytes.Equal, the reference's sums and seals, and both Opens of chapter 1: each returns what the plain functions say; memory that was there stays. -/
import Derived.Test.YtdlacjbicjhfgaaDoorProg
import Derived.Test.YtdlacjbicjhfgaaDoorCrcS
import Derived.Test.YtdlacjbicjhfgaaDoorClone
import Derived.Test.YtdlacjbicjhfgaaDoorRefB
import Derived.Test.YtdlacjbicjhfgaaDoorSee
import Derived.Deep.RegionHeld3
namespace Go.Proofs.YtdlacjbicjhfgaaDoor
open Go.RowKit Go.Proofs.YtdlacjbicjhfgaaDoorW.PrintWords

theorem strOfNums_inj {xs ys : List Int} (hx : ∀ x ∈ xs, 0 ≤ x ∧ x < 256) (hy : ∀ x ∈ ys, 0 ≤ x ∧ x < 256) (h : strOfNums xs = strOfNums ys) : xs = ys := by
  have e : ∀ zs : List Int, (∀ x ∈ zs, 0 ≤ x ∧ x < 256) → bytesOf (strOfNums zs) = zs := by
    intro zs hz
    unfold bytesOf strOfNums
    simp only [List.map_map]
    conv => rhs; rw [← List.map_id zs]
    apply List.map_congr_left
    intro a ha
    have := hz a ha
    simp
    omega
  rw [← e xs hx, ← e ys hy, h]

set_option maxHeartbeats 400000 in
theorem equal_any (A B : Option Addr) (c d : Nat) (xs ys : List Int) (w : World) (hx : Kd.C (Kd.int .u8) w A xs.length xs) (hy : Kd.C (Kd.int .u8) w B ys.length ys)
    (bx : ∀ x ∈ xs, 0 ≤ x ∧ x < 256) (byy : ∀ x ∈ ys, 0 ≤ x ∧ x < 256) :
    Calls Tryd.prog 21 #[.slice A xs.length c, .slice B ys.length d] w fun e w' => e = .returned (.bool (decide (xs = ys))) ∧ w = w' := by
  have h1 := convert_C (P := Tryd.prog) hx c 22 5 9 Tryd.underlying22 Tryd.underlying5 Tryd.underlying9
  have h2 := convert_C (P := Tryd.prog) hy d 22 5 9 Tryd.underlying22 Tryd.underlying5 Tryd.underlying9
  have HE : Hid (((strOfNums xs).toList == (strOfNums ys).toList) = decide (xs = ys)) := by
    show (_ == _) = _
    rw [str_eqb]
    exact decide_eq_decide.2 ⟨strOfNums_inj bx byy, fun h => by rw [h]⟩
  clear hx hy
  generalize strOfNums xs = s at *
  generalize strOfNums ys = t at *
  go_enter Tryd.func21, Tryd.ntmps21
  go_wp2
  go_ret
  exact ⟨by rw [← HE.out]; rfl, rfl⟩

set_option maxHeartbeats 800000 in
set_option maxRecDepth 100000 in
theorem radd_any (r b : Nat) (w : World) (hr : r < 4294967296) (hb : b < 256) :
    Calls Tryd.prog 36 #[.int .u32 r, .int .u8 b] w fun e w' => e = .returned (.int .u32 (crcStep r b : Nat)) ∧ w = w' := by
  have hx : bits .xor .u32 (r : Int) (b : Int) = ((r ^^^ b : Nat) : Int) := u32_xor_nat r b hr (by omega)
  have hxl : r ^^^ b < 4294967296 := Nat.xor_lt_two_pow (n := 32) hr (by omega)
  have HX := Lib.hid hx
  clear hx
  go_enter Tryd.func36, Tryd.ntmps36
  go_wp2
  go_loop [0, 5] (fun t i => ∃ k x : Nat, k ≤ 8 ∧ i = .int .i64 k ∧ t = .int .u32 x ∧ x < 4294967296 ∧ Hid (crcBits k (r ^^^ b) = x)) (fun _ i => 8 - (intOf i).toNat)
  case atStart => exact ⟨0, r ^^^ b, by omega, rfl, by rw [← HX.out], hxl, rfl⟩
  case round =>
    obtain ⟨k, x, hk, rfl, rfl, hxx, HK⟩ := hrel
    by_cases hlt : k < 8
    · have hb0 : decide ((k : Int) < 8) = true := decide_eq_true (by omega)
      have h1 : bits .and .u32 (x : Int) 1 = ((x % 2 : Nat) : Int) := by
        have := u32_and_nat x 1 hxx (by omega)
        rw [show ((1 : Nat) : Int) = 1 from rfl] at this
        rw [this, nat_mask1]
      have h2 : bits .xor .u32 ((x : Int) / 2) 3988292384 = ((x / 2 ^^^ 3988292384 : Nat) : Int) := by
        rw [show (x : Int) / 2 = ((x / 2 : Nat) : Int) by omega]
        exact u32_xor_nat (x / 2) 3988292384 (by omega) (by omega)
      have hc := crcBits_succ k (r ^^^ b)
      rw [HK.out] at hc
      have HC := Lib.hid hc
      have H2 := Lib.hid h2
      have hl := crcBit_lt x hxx
      clear hc h2 hb
      by_cases hodd : x % 2 = 1
      · rw [hodd] at h1
        go_wp2
        go_round
        case rel => exact ⟨k + 1, crcBit x, by omega, by go_num, by rw [H2.out]; unfold crcBit; rw [if_pos hodd], hl, HC.out⟩
        case measure => simp [intOf]; omega
      · have hev : x % 2 = 0 := by omega
        rw [hev] at h1
        go_wp2
        go_round
        case rel => exact ⟨k + 1, crcBit x, by omega, by go_num, by unfold crcBit; rw [if_neg hodd]; simp, hl, HC.out⟩
        case measure => simp [intOf]; omega
    · obtain rfl : k = 8 := by omega
      go_wp2
      go_ret
      exact ⟨by unfold crcStep; rw [HK.out]; rfl, rfl⟩

set_option maxHeartbeats 800000 in
set_option maxRecDepth 100000 in
theorem rsum_any (A : Option Addr) (c : Nat) (xs : List Int) (w : World) (hx : Kd.C (Kd.int .u8) w A xs.length xs) (hby : ∀ x ∈ xs, 0 ≤ x ∧ x < 256) :
    Calls Tryd.prog 30 #[.slice A xs.length c] w fun e w' => e = .returned (.int .u32 (crcMore 0 xs : Nat)) ∧ w = w' := by
  have hxl : xs.length ≤ 9223372036854775807 := hx.2.1
  have HB := Lib.hid hby
  clear hby
  go_enter Tryd.func30, Tryd.ntmps30
  go_wp2
  go_loop [3, 4] (fun t i => ∃ k x : Nat, k ≤ xs.length ∧ i = .int .i64 k ∧ t = .int .u32 x ∧ x < 4294967296 ∧ Hid (crcFold 4294967295 (xs.take k) = x)) (fun _ i => xs.length - (intOf i).toNat)
  case atStart => exact ⟨0, 4294967295, by omega, rfl, rfl, by omega, rfl⟩
  case round =>
    obtain ⟨k, x, hk, rfl, rfl, hxx, HK⟩ := hrel
    by_cases hlt : k < xs.length
    · obtain ⟨a, rfl, hcell⟩ := C_nat hx hlt
      have hsn := crcFold_snoc 4294967295 xs k hlt
      have hyb := HB.out (xs.getD k 0) (by rw [List.getD_eq_getElem?_getD, List.getElem?_eq_getElem hlt]; exact List.getElem_mem hlt)
      generalize xs.getD k 0 = y at hcell hsn hyb
      obtain ⟨n, rfl⟩ := Int.eq_ofNat_of_zero_le hyb.1
      rw [HK.out, Int.toNat_natCast] at hsn
      have HSN := Lib.hid hsn
      have hnl : n < 256 := by omega
      have hst := crcStep_lt x n hxx hnl
      clear hsn hyb
      go_wp2_with (go_at_call 36; refine (radd_any x n _ hxx hnl).mono ?_; rintro e w' ⟨rfl, rfl⟩)
      go_round
      case rel => exact ⟨k + 1, crcStep x n, by omega, by go_num, rfl, hst, HSN.out⟩
      case measure => simp [intOf]; omega
    · obtain rfl : k = xs.length := by omega
      have hn2 := not32 x hxx
      have HN2 := Lib.hid hn2
      have hk2 := HK.out
      rw [List.take_length] at hk2
      have HK2 := Lib.hid hk2
      clear hn2 hk2
      go_wp2
      go_ret
      exact ⟨by unfold crcMore; rw [Nat.sub_zero, HK2.out, ← HN2.out]; rfl, rfl⟩

/-- what was sealed, and the error's number -/
def openB (b : List Int) (s : Nat) : List Int × Option Nat := if b.length < 4 then ([], some 101) else if sealB (b.take (b.length - 4)) s = b then (b.take (b.length - 4), none) else ([], some 103)

end Go.Proofs.YtdlacjbicjhfgaaDoor
