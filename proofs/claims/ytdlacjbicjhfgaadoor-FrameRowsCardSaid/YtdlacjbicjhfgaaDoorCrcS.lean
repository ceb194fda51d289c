/- Contracts of chapter 1's Sum, four, Seal: what the plain functions (CrcP) say; memory that was there stays. -/
import Derived.Test.YtdlacjbicjhfgaaDoorCrcW
import Derived.Test.YtdlacjbicjhfgaaDoorConcatB
namespace Go.Proofs.YtdlacjbicjhfgaaDoor
open Go.RowKit Go.Proofs.YtdlacjbicjhfgaaDoorW.PrintWords

def sealB (b : List Int) (s : Nat) : List Int := b ++ four (crcMore 0 (four s ++ b))
theorem four_len (n : Nat) : (four n).length = 4 := rfl
theorem sealB_len (b : List Int) (s : Nat) : (sealB b s).length = b.length + 4 := by simp [sealB, four_len]
theorem sealB_bytes (b : List Int) (s : Nat) (h : ∀ x ∈ b, 0 ≤ x ∧ x < 256) : ∀ x ∈ sealB b s, 0 ≤ x ∧ x < 256 := by
  intro x hx
  rcases List.mem_append.1 hx with h1 | h1
  · exact h x h1
  · exact four_bytes _ x h1

set_option maxHeartbeats 800000 in
set_option maxRecDepth 100000 in
theorem sum_any (A : Option Addr) (c : Nat) (l : List (List Int)) (w : World) (hx : Kd.C (Kd.slice 5 (Kd.int .u8)) w A l.length l) (hby : ∀ xs ∈ l, ∀ x ∈ xs, 0 ≤ x ∧ x < 256) :
    Calls Tryd.prog 27 #[.slice A l.length c] w fun e w' => e = .returned (.int .u32 (crcMore 0 l.flatten : Nat)) ∧ w = w' := by
  have hll : l.length ≤ 9223372036854775807 := hx.2.1
  have HB := Lib.hid hby
  clear hby
  go_enter Tryd.func27, Tryd.ntmps27
  go_wp2
  go_loop [3, 8] (fun t i => ∃ k x : Nat, k ≤ l.length ∧ i = .int .i64 k ∧ t = .int .u32 x ∧ x < 4294967296 ∧ Hid (crcMore 0 (l.take k).flatten = x)) (fun _ i => l.length - (intOf i).toNat)
  case atStart => exact ⟨0, 0, Nat.zero_le _, rfl, rfl, by omega, crcMore_nil 0 (by omega)⟩
  case round =>
    obtain ⟨k, x, hk, rfl, rfl, hxx, HK⟩ := hrel
    by_cases hlt : k < l.length
    · obtain ⟨a, B, d, rfl, hcell, hld, hCB⟩ := CC_nat hx hlt
      have hsn := flat_snoc l k hlt
      have hm : l.getD k [] ∈ l := by rw [List.getD_eq_getElem?_getD, List.getElem?_eq_getElem hlt]; exact List.getElem_mem hlt
      have hyb := HB.out _ hm
      have hap := crcMore_append 0 (l.take k).flatten (l.getD k []) (by omega) (fun y hy => by
        obtain ⟨xs, h1, h2⟩ := List.mem_flatten.1 hy
        exact HB.out xs (List.mem_of_mem_take h1) y h2)
      rw [← hsn, HK.out] at hap
      generalize l.getD k [] = xs at *
      have hlt2 := crcMore_lt x xs
      have HM := Lib.hid (more_any x B d xs w hxx hCB hyb)
      have HAP := Lib.hid hap
      clear hap hsn hm hyb hCB HK
      go_wp2_with (go_at_call 32; refine HM.out.mono ?_; rintro e w' ⟨rfl, rfl⟩)
      go_round
      case rel => exact ⟨k + 1, crcMore x xs, by omega, by go_num, rfl, hlt2, HAP.out⟩
      case measure => simp [intOf]; omega
    · obtain rfl : k = l.length := by omega
      have hk2 := HK.out
      rw [List.take_length] at hk2
      have HK2 := Lib.hid hk2
      clear hk2 HK
      go_wp2
      go_ret
      exact ⟨by rw [HK2.out]; rfl, rfl⟩

theorem C_four {n : Nat} {w w' : World} (h : w' = w.alloc (.cells ((four n).map (Value.int .u8)).toArray 5)) : Kd.C (Kd.int .u8) w' (some ⟨w.heap.size, 0, none⟩) 4 (four n) := by
  subst h
  exact C_ints .u8 5 (four n) (by simp [four])
/-- a row of two slices, just made -/
theorem CC_two {w : World} {A B : Option Addr} {c d : Nat} {xs ys : List Int} (hx : Kd.C (Kd.int .u8) w A xs.length xs) (hy : Kd.C (Kd.int .u8) w B ys.length ys) (hc : xs.length ≤ c) (hd : ys.length ≤ d) :
    Kd.C (Kd.slice 5 (Kd.int .u8)) (w.alloc (.cells #[.slice A xs.length c, .slice B ys.length d] 22)) (some ⟨w.heap.size, 0, none⟩) [xs, ys].length [xs, ys] := by
  refine CC_lit (t := 22) [.slice A xs.length c, .slice B ys.length d] [xs, ys] rfl (blk_new _ _) (by simp) ?_
  intro j v zs hv hz
  match j with
  | 0 => simp at hv hz; subst hv hz; exact ⟨A, c, rfl, hc, Kd.C_below hx ((Below.refl _ _).alloc (Nat.le_refl _) _)⟩
  | 1 => simp at hv hz; subst hv hz; exact ⟨B, d, rfl, hd, Kd.C_below hy ((Below.refl _ _).alloc (Nat.le_refl _) _)⟩
  | j + 2 => simp at hv

end Go.Proofs.YtdlacjbicjhfgaaDoor
