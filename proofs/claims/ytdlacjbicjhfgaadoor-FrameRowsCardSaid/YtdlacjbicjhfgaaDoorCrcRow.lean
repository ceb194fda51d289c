/- Rows of slices, just made, and their sums, wherever they stand. -/
import Derived.Test.YtdlacjbicjhfgaaDoorCrcS
namespace Go.Proofs.YtdlacjbicjhfgaaDoor
open Go.RowKit Go.Proofs.YtdlacjbicjhfgaaDoorW.PrintWords

theorem CC_one {w : World} {A : Option Addr} {c : Nat} {xs : List Int} (hx : Kd.C (Kd.int .u8) w A xs.length xs) (hc : xs.length ≤ c) :
    Kd.C (Kd.slice 5 (Kd.int .u8)) (w.alloc (.cells #[.slice A xs.length c] 22)) (some ⟨w.heap.size, 0, none⟩) [xs].length [xs] := by
  refine CC_lit (t := 22) [.slice A xs.length c] [xs] rfl (blk_new _ _) (by simp) ?_
  intro j v zs hv hz
  match j with
  | 0 => simp at hv hz; subst hv hz; exact ⟨A, c, rfl, hc, Kd.C_below hx ((Below.refl _ _).alloc (Nat.le_refl _) _)⟩
  | j + 1 => simp at hv
theorem CC_three {w : World} {A B D : Option Addr} {c d e : Nat} {xs ys zs : List Int} (hx : Kd.C (Kd.int .u8) w A xs.length xs) (hy : Kd.C (Kd.int .u8) w B ys.length ys) (hz : Kd.C (Kd.int .u8) w D zs.length zs) (hc : xs.length ≤ c) (hd : ys.length ≤ d) (he : zs.length ≤ e) :
    Kd.C (Kd.slice 5 (Kd.int .u8)) (w.alloc (.cells #[.slice A xs.length c, .slice B ys.length d, .slice D zs.length e] 22)) (some ⟨w.heap.size, 0, none⟩) [xs, ys, zs].length [xs, ys, zs] := by
  refine CC_lit (t := 22) [.slice A xs.length c, .slice B ys.length d, .slice D zs.length e] [xs, ys, zs] rfl (blk_new _ _) (by simp) ?_
  intro j v us hv hu
  match j with
  | 0 => simp at hv hu; subst hv hu; exact ⟨A, c, rfl, hc, Kd.C_below hx ((Below.refl _ _).alloc (Nat.le_refl _) _)⟩
  | 1 => simp at hv hu; subst hv hu; exact ⟨B, d, rfl, hd, Kd.C_below hy ((Below.refl _ _).alloc (Nat.le_refl _) _)⟩
  | 2 => simp at hv hu; subst hv hu; exact ⟨D, e, rfl, he, Kd.C_below hz ((Below.refl _ _).alloc (Nat.le_refl _) _)⟩
  | j + 3 => simp at hv
/-- the sum of one part in a row just made -/
theorem sumOne_any (A : Option Addr) (c : Nat) (xs : List Int) (W : World) (hx : Kd.C (Kd.int .u8) W A xs.length xs) (hc : xs.length ≤ c) (hb : ∀ x ∈ xs, 0 ≤ x ∧ x < 256) :
    Calls Tryd.prog 27 #[.slice (some ⟨W.heap.size, 0, none⟩) 1 1] (W.alloc (.cells #[.slice A xs.length c] 22)) fun e w' => e = .returned (.int .u32 (crcMore 0 xs : Nat)) ∧ W.alloc (.cells #[.slice A xs.length c] 22) = w' := by
  have h := sum_any _ 1 _ _ (CC_one hx hc) (by intro ys hy; simp at hy; subst hy; exact hb)
  rw [List.flatten_singleton] at h
  exact h
theorem sumTwo_any (A B : Option Addr) (c d : Nat) (xs ys : List Int) (W : World) (hx : Kd.C (Kd.int .u8) W A xs.length xs) (hc : xs.length ≤ c) (hb : ∀ x ∈ xs, 0 ≤ x ∧ x < 256) (hy : Kd.C (Kd.int .u8) W B ys.length ys) (hd : ys.length ≤ d) (hby : ∀ x ∈ ys, 0 ≤ x ∧ x < 256) :
    Calls Tryd.prog 27 #[.slice (some ⟨W.heap.size, 0, none⟩) 2 2] (W.alloc (.cells #[.slice A xs.length c, .slice B ys.length d] 22)) fun e w' => e = .returned (.int .u32 (crcMore 0 (xs ++ ys) : Nat)) ∧ W.alloc (.cells #[.slice A xs.length c, .slice B ys.length d] 22) = w' := by
  have h := sum_any _ 2 _ _ (CC_two hx hy hc hd) (by
    intro zs hz
    simp at hz
    rcases hz with rfl | rfl
    · exact hb
    · exact hby)
  rw [show [xs, ys].flatten = xs ++ ys by simp] at h
  exact h

end Go.Proofs.YtdlacjbicjhfgaaDoor
