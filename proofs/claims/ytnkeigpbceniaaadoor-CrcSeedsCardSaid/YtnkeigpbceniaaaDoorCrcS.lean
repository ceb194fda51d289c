/- Contracts of chapter 1's Sum, four, Seal: what the plain functions (CrcP) say; memory that was there stays. -/
import Derived.Test.YtnkeigpbceniaaaDoorCrcW
import Derived.Test.YtnkeigpbceniaaaDoorConcatB
namespace Go.Proofs.YtnkeigpbceniaaaDoor
open Go.RowKit Go.Proofs.YtnkeigpbceniaaaDoorW.PrintWords

def sealB (b : List Int) (s : Nat) : List Int := b ++ four (crcMore 0 (four s ++ b))
theorem four_len (n : Nat) : (four n).length = 4 := rfl
theorem sealB_len (b : List Int) (s : Nat) : (sealB b s).length = b.length + 4 := by simp [sealB, four_len]
theorem sealB_bytes (b : List Int) (s : Nat) (h : ∀ x ∈ b, 0 ≤ x ∧ x < 256) : ∀ x ∈ sealB b s, 0 ≤ x ∧ x < 256 := by
  intro x hx
  rcases List.mem_append.1 hx with h1 | h1
  · exact h x h1
  · exact four_bytes _ x h1

set_option maxHeartbeats 800000 in
set_option maxRecDepth 100000 in
theorem sum_any (A : Option Addr) (c : Nat) (l : List (List Int)) (w : World) (hx : Kd.C (Kd.slice 5 (Kd.int .u8)) w A l.length l) (hby : ∀ xs ∈ l, ∀ x ∈ xs, 0 ≤ x ∧ x < 256) :
    Calls Tryd.prog 12 #[.slice A l.length c] w fun e w' => e = .returned (.int .u32 (crcMore 0 l.flatten : Nat)) ∧ w = w' := by
  have hll : l.length ≤ 9223372036854775807 := hx.2.1
  have HB := Lib.hid hby
  clear hby
  go_enter Tryd.func12, Tryd.ntmps12
  go_wp2
  go_loop [3, 8] (fun t i => ∃ k x : Nat, k ≤ l.length ∧ i = .int .i64 k ∧ t = .int .u32 x ∧ x < 4294967296 ∧ Hid (crcMore 0 (l.take k).flatten = x)) (fun _ i => l.length - (intOf i).toNat)
  case atStart => exact ⟨0, 0, Nat.zero_le _, rfl, rfl, by omega, crcMore_nil 0 (by omega)⟩
  case round =>
    obtain ⟨k, x, hk, rfl, rfl, hxx, HK⟩ := hrel
    by_cases hlt : k < l.length
    · obtain ⟨a, B, d, rfl, hcell, hld, hCB⟩ := CC_nat hx hlt
      have hsn := flat_snoc l k hlt
      have hm : l.getD k [] ∈ l := by rw [List.getD_eq_getElem?_getD, List.getElem?_eq_getElem hlt]; exact List.getElem_mem hlt
      have hyb := HB.out _ hm
      have hap := crcMore_append 0 (l.take k).flatten (l.getD k []) (by omega) (fun y hy => by
        obtain ⟨xs, h1, h2⟩ := List.mem_flatten.1 hy
        exact HB.out xs (List.mem_of_mem_take h1) y h2)
      rw [← hsn, HK.out] at hap
      generalize l.getD k [] = xs at *
      have hlt2 := crcMore_lt x xs
      have HM := Lib.hid (more_any x B d xs w hxx hCB hyb)
      have HAP := Lib.hid hap
      clear hap hsn hm hyb hCB HK
      go_wp2_with (go_at_call 14; refine HM.out.mono ?_; rintro e w' ⟨rfl, rfl⟩)
      go_round
      case rel => exact ⟨k + 1, crcMore x xs, by omega, by go_num, rfl, hlt2, HAP.out⟩
      case measure => simp [intOf]; omega
    · obtain rfl : k = l.length := by omega
      have hk2 := HK.out
      rw [List.take_length] at hk2
      have HK2 := Lib.hid hk2
      clear hk2 HK
      go_wp2
      go_ret
      exact ⟨by rw [HK2.out]; rfl, rfl⟩

set_option maxHeartbeats 800000 in
set_option maxRecDepth 100000 in
theorem four_any (n : Nat) (w : World) (hn : n < 4294967296) :
    Calls Tryd.prog 22 #[.int .u32 n] w fun e w' => e = .returned (.slice (some ⟨w.heap.size, 0, none⟩) 4 4) ∧ w' = w.alloc (.cells ((four n).map (Value.int .u8)).toArray 5) := by
  have h0 : IntKind.wrap .u8 (n : Int) = ((n % 256 : Nat) : Int) := by go_num
  go_enter Tryd.func22, Tryd.ntmps22
  go_wp2
  go_ret
  refine ⟨rfl, ?_⟩
  have h3 : (n : Int) / 16777216 % 256 = (n : Int) / 16777216 := by omega
  simp [four, h3]
theorem C_four {n : Nat} {w w' : World} (h : w' = w.alloc (.cells ((four n).map (Value.int .u8)).toArray 5)) : Kd.C (Kd.int .u8) w' (some ⟨w.heap.size, 0, none⟩) 4 (four n) := by
  subst h
  exact C_ints .u8 5 (four n) (by simp [four])
/-- a row of two slices, just made -/
theorem CC_two {w : World} {A B : Option Addr} {c d : Nat} {xs ys : List Int} (hx : Kd.C (Kd.int .u8) w A xs.length xs) (hy : Kd.C (Kd.int .u8) w B ys.length ys) (hc : xs.length ≤ c) (hd : ys.length ≤ d) :
    Kd.C (Kd.slice 5 (Kd.int .u8)) (w.alloc (.cells #[.slice A xs.length c, .slice B ys.length d] 22)) (some ⟨w.heap.size, 0, none⟩) [xs, ys].length [xs, ys] := by
  refine CC_lit (t := 22) [.slice A xs.length c, .slice B ys.length d] [xs, ys] rfl (blk_new _ _) (by simp) ?_
  intro j v zs hv hz
  match j with
  | 0 => simp at hv hz; subst hv hz; exact ⟨A, c, rfl, hc, Kd.C_below hx ((Below.refl _ _).alloc (Nat.le_refl _) _)⟩
  | 1 => simp at hv hz; subst hv hz; exact ⟨B, d, rfl, hd, Kd.C_below hy ((Below.refl _ _).alloc (Nat.le_refl _) _)⟩
  | j + 2 => simp at hv

set_option maxHeartbeats 800000 in
set_option maxRecDepth 100000 in
theorem seal_any (A : Option Addr) (c : Nat) (b : List Int) (s : Nat) (w : World) (hx : Kd.C (Kd.int .u8) w A b.length b) (hc : b.length ≤ c) (hn : A = none → c = 0) (hby : ∀ x ∈ b, 0 ≤ x ∧ x < 256) (hs : s < 4294967296) (hl : b.length ≤ 140737488351232) :
    Calls Tryd.prog 10 #[.slice A b.length c, .int .u32 s] w fun e w' => ∃ A' c', e = .returned (.slice A' (sealB b s).length c') ∧ w'.ownsRow w.heap.size 5 1 (.slice A' (sealB b s).length c') (sealB b s).length (nums .u8 (sealB b s)) ∧ Below w.heap.size w w' := by
  have HB := Lib.hid hby
  have HN := Lib.hid hn
  clear hby hn
  go_enter Tryd.func10, Tryd.ntmps10
  go_wp2_with fail
  refine (four_any s _ hs).mono ?_
  rintro e w1 ⟨rfl, he1⟩
  have hf := C_four he1
  have hb1 : Below w.heap.size w w1 := by rw [he1]; exact (Below.refl _ _).alloc (Nat.le_refl _) _
  clear he1
  have hx1 := Kd.C_below hx hb1
  have hs1 := hb1.size
  have hcc := CC_two (c := 4) (d := c) (xs := four s) hf hx1 (Nat.le_refl _) hc
  have HS := Lib.hid (sum_any _ 2 _ _ hcc (by
    intro xs h
    simp at h
    rcases h with rfl | rfl
    · exact four_bytes _
    · exact HB.out))
  clear hcc
  go_wp2_with fail
  refine HS.out.mono ?_
  rintro e w2 ⟨rfl, rfl⟩
  clear HS
  have hfl : crcMore 0 [four s, b].flatten = crcMore 0 (four s ++ b) := by simp
  rw [hfl]
  have hxl := crcMore_lt 0 (four s ++ b)
  have hse : sealB b s = [b, four (crcMore 0 (four s ++ b))].flatten := by simp [sealB]
  have hsl := sealB_len b s
  generalize crcMore 0 (four s ++ b) = x at hxl hse
  have hb2 : Below w.heap.size w (w1.alloc (.cells #[.slice (some ⟨w.heap.size, 0, none⟩) (four s).length 4, .slice A b.length c] 22)) := hb1.alloc hs1 _
  generalize (w1.alloc (.cells #[.slice (some ⟨w.heap.size, 0, none⟩) (four s).length 4, .slice A b.length c] 22)) = w2 at hb2
  have hs2 := hb2.size
  clear hf hx1 hfl
  go_wp2_with fail
  refine (four_any x _ hxl).mono ?_
  rintro e w3 ⟨rfl, he3⟩
  have hf := C_four he3
  have hb3 : Below w.heap.size w w3 := by rw [he3]; exact hb2.alloc hs2 _
  clear he3
  have hx3 := Kd.C_below hx hb3
  have hs3 := hb3.size
  have hcc := CC_two (c := c) (d := 4) (ys := four x) hx3 hf hc (Nat.le_refl _)
  have hc2 := concatB_any _ 2 _ _ hcc (by rw [← hse, hsl]; omega) (by
    intro k a B n d ha hk hcell hB
    obtain rfl := Option.some.inj ha
    rw [add_plain, cell_of_row _ _ k _ _ _ (blk_new _ _)] at hcell
    match k with
    | 0 => simp at hcell; obtain ⟨rfl, rfl, rfl⟩ := hcell; exact HN.out hB
    | 1 => simp at hcell; obtain ⟨rfl, rfl, rfl⟩ := hcell; cases hB
    | k + 2 => exact absurd hk (by simp))
  rw [← hse] at hc2
  have HC := Lib.hid hc2
  clear hc2 hcc
  go_wp2_with fail
  refine HC.out.mono ?_
  rintro e w4 ⟨A', c', rfl, ho, hb4⟩
  go_wp2
  go_ret
  have hs5 : w.heap.size ≤ (w3.alloc (.cells #[.slice A b.length c, .slice (some ⟨w2.heap.size, 0, none⟩) (four x).length 4] 22)).heap.size := by simp; omega
  exact ⟨A', c', by rw [hse]; simp, own_weaken ho hs5, below_then (hb3.alloc hs3 _) hs5 hb4⟩

end Go.Proofs.YtnkeigpbceniaaaDoor
